/-
  twoSchedules and the draws of two schedules.
-/
import Derived.Test.YtkbclcgdkbhgdaaQIvsGen4
import Derived.Test.YtkbclcgdkbhgdaaQIvsOrd0
import Derived.Test.YtkbclcgdkbhgdaaPkOrdX2
import Derived.Test.YtkbclcgdkbhgdaaPkOrdX1
import Derived.Deep.CutRange
import Derived.IntWalk
namespace Go.Proofs.Ytkbclcgdkbhgdaa
open Go.RowKit Go.BigFrame
set_option linter.unusedVariables false

/-- Two lists of operations are handed back; nothing but the reader at rb has changed. -/
def TwoOps (w0 : World) (rb : Nat) (e : Ending) (w : World) : Prop :=
  ∃ (A : Option Addr) (n c : Nat) (xs : List OpV) (B : Option Addr) (m d : Nat) (ys : List OpV), e = .returned (.tuple #[.slice A n c, .slice B m d]) ∧ n ≤ c ∧ m ≤ d ∧ n ≤ 64 ∧ m ≤ 64 ∧ ROps w A n xs ∧ ROps w B m ys ∧ Only rb w0 w
theorem own_cap {w : World} {base n c : Nat} {e : TypeId} {size : Nat} {A : Option Addr} {xs : List Value} (h : w.ownsRow base e size (.slice A n c) n xs) : n ≤ c := by
  obtain ⟨A', c', he, hc⟩ := own_form2 h
  injection he with _ _ he
  omega
theorem ROps.only {w w' : World} {rb : Nat} {A : Option Addr} {n : Nat} {xs : List OpV} (h : ROps w A n xs) (ho : Only rb w w') (hA : ∀ ad, A = some ad → ad.block ≠ rb) : ROps w' A n xs := by
  refine ⟨h.1, h.2.1, fun h0 => ?_⟩
  obtain ⟨b, off, e, hlt, hc⟩ := h.2.2 h0
  have hs := ho.size
  refine ⟨b, off, e, by omega, fun i o hi => ?_⟩
  obtain ⟨h1, h2, h3⟩ := hc i o hi
  have hne : b ≠ rb := hA _ e
  exact ⟨(ho.cell hlt hne).trans h1, (ho.cell hlt hne).trans h2, (ho.cell hlt hne).trans h3⟩
theorem own_far {w : World} {base n c rb : Nat} {e : TypeId} {size : Nat} {A : Option Addr} {xs : List Value} (h : w.ownsRow base e size (.slice A n c) n xs) (hrb : rb < base) : ∀ ad, A = some ad → ad.block ≠ rb := fun ad had => by
  rcases h.2 with ⟨e1, _⟩ | ⟨g, cap, cur, e1, h2, _⟩
  · injection e1 with e1; rw [e1] at had; cases had
  · injection e1 with e1
    rw [e1] at had
    injection had with had
    subst had
    simp only
    omega
theorem serialI_len64 {s : List OpV} {ts : List Int} (h1 : s.length ≤ 16) (h2 : ts.length ≤ 4) : (serialI s ts).length ≤ 64 := by
  have : ∀ l : List Int, (serialI s l).length ≤ l.length * 16 := fun l => by
    induction l with
    | nil => simp [serialI]
    | cons t r ih =>
      have : (opsOf s t).length ≤ s.length := List.length_filter_le _ _
      unfold serialI at ih ⊢
      rw [List.flatMap_cons, List.length_append, List.length_cons]
      omega
  have := this ts
  omega

theorem put_row {w : World} {g k : Nat} {T : TypeId} {ys : List OpV} {more : List Value} (p : OpV) (hrow : RowIs w g T (opCells ys ++ more)) (hk : k < ys.length) :
    RowIs (((w.setCell ⟨g, k * 3, none⟩ (.int .i64 p.tx)).setCell ⟨g, k * 3 + 1, none⟩ (.int .i64 p.kind)).setCell ⟨g, k * 3 + 2, none⟩ (.int .i64 p.item)) g T (opCells (ys.set k p) ++ more) := by
  have hlen := length_opCells ys
  have := ((hrow.set (k * 3) (.int .i64 p.tx)).set (k * 3 + 1) (.int .i64 p.kind)).set (k * 3 + 2) (.int .i64 p.item)
  rw [List.set_append_left _ _ (by omega), List.set_append_left _ _ (by simp; omega), List.set_append_left _ _ (by simp; omega), ← opCells_put] at this
  exact this
theorem put_grown {w : World} {g a b c : Nat} {x y z : Value} : w.grownBy (((w.setCell ⟨g, a, none⟩ x).setCell ⟨g, b, none⟩ y).setCell ⟨g, c, none⟩ z) (some g) := World.grownBy.trans (World.grownBy.trans grown_set grown_set) grown_set

set_option maxRecDepth 100000 in
set_option maxHeartbeats 4000000 in
theorem twoSchedules_any (rb p : Nat) (w : World) (h : Rd w rb p) (hp : p ≤ 10000) :
    Calls Try.prog 85 #[.pointer (some ⟨rb, 0, none⟩)] w (TwoOps w rb) := by
  have hlt := h.lt
  have HS := Lib.hid (someScheduleL_any rb p w h hp)
  clear h
  go_enter Try.func85, Try.ntmps85
  go_wp2_with fail
  refine HS.out.mono ?_
  rintro e w1 ⟨A, n, c, p1, xs, rfl, hown, hn, hr1, hp1, hO1⟩
  have hs1 := hO1.size
  have hnc := own_cap hown
  have hxa : ROps w1 A n xs := ROps.of_own hown (by omega)
  have hfar := own_far hown hlt
  have HFAR := Lib.hid hfar
  have HXA := Lib.hid hxa
  have HR1 := Lib.hid hr1
  have HO1 := Lib.hid hO1
  have HL1 : Hid ((w1.alloc (.cells #[] 32)).ownsRow w1.heap.size 32 3 (.slice (some ⟨w1.heap.size, 0, none⟩) 0 0) 0 (opCells [])) := World.ownsRow_made w1 #[] 0 (Nat.le_refl _) (by decide) rfl
  have HXB : Hid (ROps (w1.alloc (.cells #[] 32)) A n xs) := hxa.below ((Below.refl _ w1).alloc (Nat.le_refl _) _) (Nat.le_refl _)
  clear hown hr1 hO1 HS hfar hxa
  go_wp2_with (at_builtin; refine app_ops (.tmp 11) (.tmp 12) HL1.out (by simp) HXB.out (by omega) rfl rfl rfl rfl ?_; intro v2 w2 hown2 hg2 hat2; rw [List.nil_append, Nat.zero_add] at hown2; obtain ⟨B, d, rfl, hmd⟩ := own_form2 hown2)
  have hO12 : Only rb w1 w2 := ((Only.refl rb w1).alloc _).own HL1.out (Nat.le_refl _) hg2
  have hR2 : Rd w2 rb p1 := (HR1.out.alloc _).grown hg2 fun k hk => by simp [Value.ownBlock] at hk; omega
  have hX2 : ROps w2 A n xs := HXA.out.only hO12 HFAR.out
  have HV := Lib.hid (svalid_any A n c xs w2 hX2)
  have HSOME : Hid (∀ (W : World) (q : Nat), Rd W rb q → q ≤ 50000 → Only rb w1 W → Calls Try.prog 63 #[.pointer (some ⟨rb, 0, none⟩)] W fun e W' => ∃ B m d, e = .returned (.slice B m d) ∧ TwoOps w rb (.returned (.tuple #[.slice A n c, .slice B m d])) W') := fun W q h1 h2 h3 => by
    refine (someSchedule_any rb q W h1 h2).mono ?_
    rintro e W' ⟨A2, n2, c2, p2, ys, rfl, hownB, hn2, _, _, hO⟩
    have h13 := h3.trans hO
    exact ⟨A2, n2, c2, rfl, A, n, c, xs, A2, n2, c2, ys, rfl, hnc, own_cap hownB, by omega, by omega, HXA.out.only h13 HFAR.out, ROps.of_own hownB (by omega), HO1.out.trans h13⟩
  have HOWN := Lib.hid hown2
  clear hown2 hg2 hat2 HL1 HXB
  go_wp2_with fail
  refine HV.out.mono ?_
  rintro e w3 ⟨rfl, hb3⟩
  have hO13 := hO12.trans (Only.of_below hb3)
  have hR3 := hR2.below hb3
  have HOWN3 := Lib.hid (own_below HOWN.out hb3)
  clear HV hb3 hO12 hR2 hX2 HOWN
  cases hv : validS xs
  · have HC := Lib.hid (HSOME.out w3 p1 hR3 (by omega) hO13)
    clear hv
    go_wp2_with fail
    refine HC.out.mono ?_
    rintro e w4 ⟨B2, m2, d2, rfl, hT⟩
    have HT := Lib.hid hT
    clear hT
    go_wp2_with fail
    go_ret2
    exact HT.out
  have hn16 : n ≤ 16 := by rw [← HXA.out.1]; exact ((validS_iff xs).1 hv).1
  clear hv
  go_wp2_with fail
  refine (pick_any rb p1 8 w3 hR3 (by omega) (by omega)).mono ?_
  rintro e w4 ⟨v, rfl, hR4, _, _, hO34⟩
  have hO14 := hO13.trans hO34
  have HOWN4 := Lib.hid (own_only HOWN3.out hO34 (by omega))
  clear hR3 hO13 hO34 HOWN3
  by_cases hv0 : v = 0
  · subst hv0
    have HC := Lib.hid (HSOME.out w4 (p1 + 1) hR4 (by omega) hO14)
    go_wp2_with fail
    refine HC.out.mono ?_
    rintro e w5 ⟨B2, m2, d2, rfl, hT⟩
    have HT := Lib.hid hT
    clear hT
    go_wp2_with fail
    go_ret2
    exact HT.out
  have hv0' : (v == 0) = false := by rw [beq_eq_false_iff_ne]; exact hv0
  clear HSOME
  go_wp2_with fail
  refine (pick_any rb (p1 + 1) 3 w4 hR4 (by omega) (by omega)).mono ?_
  rintro e w5 ⟨v3, rfl, hR5, _, _, hO45⟩
  have hO15 := hO14.trans hO45
  have HOWN5 := Lib.hid (own_only HOWN4.out hO45 (by omega))
  have hX5 : ROps w5 A n xs := HXA.out.only hO15 HFAR.out
  clear hR4 hO14 hO45 HOWN4 hv0 hv0'
  by_cases hv3 : v3 = 0
  · subst hv3
    have HOR := Lib.hid (orderOf_anyN (txsOf xs).length rb (p1 + 1 + 1) A n c xs w5 hR5 (by omega) hX5 rfl)
    have hl4 : (txsOf xs).length ≤ 4 := txsOf_len xs
    have HX5 := Lib.hid hX5
    have HO15 := Lib.hid hO15
    clear hR5 hX5 hO15 HOWN5
    go_wp2_with fail
    refine HOR.out.mono ?_
    rintro e w6 ⟨B4, m4, d4, ts, rfl, hown6, hm4, hO56, hkm⟩
    have hO16 := HO15.out.trans hO56
    have hX6 : ROps w6 A n xs := HXA.out.only hO16 HFAR.out
    have HT6 := Lib.hid (stxs_any A n c xs w6 hX6)
    have hri := RInts.of_own hown6 (by omega)
    have hcap := own_cap hown6
    have HRI := Lib.hid hri
    have HO16 := Lib.hid hO16
    clear hown6 hO56 hO16 hX6 HOR HX5 hri
    obtain ⟨L, hL⟩ : ∃ L, txsOf xs = L := ⟨_, rfl⟩
    rw [hL] at HT6 hl4 hkm
    clear hL
    go_wp2_with fail
    refine HT6.out.mono ?_
    rintro e w7 ⟨L7, lc, rfl, _, _, hb7⟩
    have hO17 := HO16.out.trans (Only.of_below hb7)
    have hX7 : ROps w7 A n xs := HXA.out.only hO17 HFAR.out
    have HS7 := Lib.hid (sserial_any A B4 n c L.length d4 xs (ts.take L.length) w7 hX7 ((HRI.out.take hkm).below hb7 (Nat.le_refl _)) hn16 (by omega))
    have HO17 := Lib.hid hO17
    have hkd : (L.length : Int) ≤ (d4 : Int) := by omega
    have hk0 : (0 : Int) ≤ (L.length : Int) := by omega
    have hsl : (serialI xs (ts.take L.length)).length ≤ 64 := serialI_len64 (by rw [HXA.out.1]; exact hn16) (by simp; omega)
    clear hb7 hO17 hX7 HT6
    go_wp2_with fail
    refine HS7.out.mono ?_
    rintro e w8 ⟨Y, yc, rfl, hyc, hfy, hb8⟩
    have hO18 := HO17.out.trans (Only.of_below hb8)
    have HT : Hid (TwoOps w rb (.returned (.tuple #[.slice A n c, .slice Y (serialI xs (ts.take L.length)).length yc])) w8) :=
      ⟨A, n, c, xs, Y, _, yc, _, rfl, hnc, hyc, by omega, hsl, HXA.out.only hO18 HFAR.out, hfy.1, HO1.out.trans hO18⟩
    clear hb8 hO18 hfy
    go_wp2_with fail
    go_ret2
    exact HT.out
  have hv3' : (v3 == 0) = false := by rw [beq_eq_false_iff_ne]; exact hv3
  have hL5 : RInts (w5.alloc (.cells #[.int .i64 2, .int .i64 4, .int .i64 1, .int .i64 8, .int .i64 0] 3)) (some ⟨w5.heap.size, 0, none⟩) 5 [2, 4, 1, 8, 0] := lit5 rfl 2 4 1 8 0
  have hs5 := hO15.size
  have HONE := Lib.hid (one_any rb (p1 + 1 + 1) (some ⟨w5.heap.size, 0, none⟩) 5 5 [2, 4, 1, 8, 0] _ (hR5.alloc _) (by omega) hL5 (by omega) (far_lit (by omega)))
  have HOA := Lib.hid (hO15.alloc (.cells #[.int .i64 2, .int .i64 4, .int .i64 1, .int .i64 8, .int .i64 0] 3))
  have HOWA := Lib.hid (HOWN5.out.alloc (.cells #[.int .i64 2, .int .i64 4, .int .i64 1, .int .i64 8, .int .i64 0] 3))
  clear hL5 hR5 hO15 HOWN5 hX5 hv3
  go_wp2_with fail
  refine HONE.out.mono ?_
  rintro e w6 ⟨x, rfl, hx, hR6, hO6'⟩
  have hx8 : x ≤ 8 := by
    simp only [List.mem_cons, List.not_mem_nil, or_false] at hx
    omega
  have hO6 := HOA.out.trans hO6'
  have hown6 := own_only HOWA.out hO6' (by omega)
  clear hx hO6' HONE HOA HOWA
  by_cases hn1 : n ≤ 1
  · have HT : Hid (TwoOps w rb (.returned (.tuple #[.slice A n c, .slice B n d])) w6) :=
      ⟨A, n, c, xs, B, n, d, xs, rfl, hnc, hmd, by omega, by omega, HXA.out.only hO6 HFAR.out, ROps.of_own hown6 (by omega), HO1.out.trans hO6⟩
    have hnl : ¬ ((1 : Int) < (n : Int)) := by omega
    clear hR6 hO6 hown6
    go_wp2_with fail
    go_loopw [6] (fun z wr => (∃ x : Int, z = .int .i64 x) ∧ wr = w6) (fun _ _ => 0)
    case atStart => exact ⟨⟨_, rfl⟩, rfl⟩
    case round =>
      obtain ⟨⟨y, rfl⟩, rfl⟩ := hrel
      by_cases hy : 0 < y
      · go_wp2_with fail
        go_ret2
        exact HT.out
      · go_wp2_with fail
        go_ret2
        exact HT.out
  have hnl : (1 : Int) < (n : Int) := by omega
  obtain ⟨g, rest, hBg, hge, hrow⟩ := (FreshOps.of_own (w0 := w1) hown6 (Nat.le_refl _) (by omega)).row (by omega)
  subst hBg
  have hrbg : rb < g := by omega
  have HST : Hid (∃ (y : Int) (q : Nat) (ys : List OpV), Value.int .i64 x = .int .i64 y ∧ y ≤ 8 ∧ q + 2 * y.toNat ≤ 40100 ∧ ys.length = n ∧ Rd w6 rb q ∧ Only rb w1 w6 ∧ RowIs w6 g 32 (opCells ys ++ rest)) :=
    ⟨x, _, xs, rfl, hx8, by omega, HXA.out.1, hR6, hO6, hrow⟩
  clear hR6 hO6 hown6 hrow
  go_wp2_with fail
  go_loopw [6] (fun z wr => ∃ (y : Int) (q : Nat) (ys : List OpV), z = .int .i64 y ∧ y ≤ 8 ∧ q + 2 * y.toNat ≤ 40100 ∧ ys.length = n ∧ Rd wr rb q ∧ Only rb w1 wr ∧ RowIs wr g 32 (opCells ys ++ rest)) (fun z _ => (intOf z).toNat)
  case atStart => exact HST.out
  case round =>
    clear HST
    obtain ⟨wo, rfl⟩ : ∃ wo : World, wo = wr := ⟨_, rfl⟩
    obtain ⟨y, q, ys, rfl, hy8, hqb, hyl, hR, hO, hrow⟩ := hrel
    have HROW := Lib.hid hrow
    have HO := Lib.hid hO
    have HYL := Lib.hid hyl
    by_cases hy : 0 < y
    · have hnw : IntKind.i64.wrap ((n : Int) - 1) = (n : Int) - 1 := IntWalk.i64_in _ (by omega)
      clear hrow hO hyl
      go_wp2_with fail
      refine (pick_any rb q ((n : Int) - 1) wo hR (by omega) (by omega)).mono ?_
      rintro e w7 ⟨v7, rfl, hR7, _, hv7, hO7⟩
      obtain ⟨hv0, hv1⟩ := hv7 (by omega)
      obtain ⟨k, rfl⟩ := Int.eq_ofNat_of_zero_le hv0
      have hkn : k + 1 < n := by omega
      have hrow7 : RowIs w7 g 32 (opCells ys ++ rest) := HROW.out.grown hO7 (by intro e; injection e with e; omega)
      obtain ⟨o, ho⟩ : ∃ o, ys[k]? = some o := ⟨_, List.getElem?_eq_getElem (by rw [HYL.out]; omega)⟩
      obtain ⟨p', hp'⟩ : ∃ o, ys[k + 1]? = some o := ⟨_, List.getElem?_eq_getElem (by rw [HYL.out]; omega)⟩
      have hcs : ∀ (i : Nat) (r : OpV), ys[i]? = some r → ∀ W : World, RowIs W g 32 (opCells ys ++ rest) → W.cell? ⟨g, i * 3, none⟩ = some (.int .i64 r.tx) ∧ W.cell? ⟨g, i * 3 + 1, none⟩ = some (.int .i64 r.kind) ∧ W.cell? ⟨g, i * 3 + 2, none⟩ = some (.int .i64 r.item) := fun i r hr W hW => by
        obtain ⟨a0, a1, a2⟩ := opCells_at ys i r hr
        have hlen := length_opCells ys
        have hi := (List.getElem?_eq_some_iff.1 hr).1
        exact ⟨hW.cell (by rw [List.getElem?_append_left (by omega)]; exact a0), hW.cell (by rw [List.getElem?_append_left (by omega)]; exact a1), hW.cell (by rw [List.getElem?_append_left (by omega)]; exact a2)⟩
      have HCK := Lib.hid (hcs k o ho)
      have HCP := Lib.hid (hcs (k + 1) p' hp')
      have hO17 := HO.out.trans hO7
      have hkw : IntKind.i64.wrap ((k : Int) + 1) = (k : Int) + 1 := IntWalk.i64_in _ (by omega)
      have hkt : ((k : Int) + 1).toNat = k + 1 := by omega
      have hki : (k : Int) < (n : Int) := by omega
      have hk0 : (0 : Int) ≤ (k : Int) := by omega
      have hki1 : (k : Int) + 1 < (n : Int) := by omega
      have hk01 : (0 : Int) ≤ (k : Int) + 1 := by omega
      have HR7 := Lib.hid hR7
      have HROW7 := Lib.hid hrow7
      have HO17 := Lib.hid hO17
      obtain ⟨ot, ok, oi⟩ := o
      obtain ⟨pt, pk, pi⟩ := p'
      have HLEN : Hid (k < ys.length ∧ k + 1 < (ys.set k ⟨pt, pk, pi⟩).length ∧ ((ys.set k ⟨pt, pk, pi⟩).set (k + 1) ⟨ot, ok, oi⟩).length = n) := by
        have := HYL.out
        exact ⟨by omega, by simp; omega, by simp; omega⟩
      clear hcs ho hp' hv7 hv0 hv1 hO7 hO17 hR7 hrow7 hR
      go_wp2_with fail
      go_cut [84] from 55 to 101 (fun b wx => ∃ (bb : Bool) (q' : Nat), b = .bool bb ∧ q' ≤ q + 2 ∧ Rd wx rb q' ∧ Only rb w7 wx)
      case first =>
        obtain ⟨a0, a1, a2⟩ := HCK.out w7 HROW7.out
        obtain ⟨b0, b1, b2⟩ := HCP.out w7 HROW7.out
        try simp only at a0 a1 a2 b0 b1 b2
        obtain ⟨cb, hcb⟩ : ∃ cb, sconfB ⟨ot, ok, oi⟩ ⟨pt, pk, pi⟩ = cb := ⟨_, rfl⟩
        have HCF : Hid (∀ W : World, Calls Try.prog 90 #[.agg #[.int .i64 ot, .int .i64 ok, .int .i64 oi], .agg #[.int .i64 pt, .int .i64 pk, .int .i64 pi]] W fun e w' => e = .returned (.bool cb) ∧ Below W.heap.size W w') := fun W => by
          have := sconflict_any ⟨ot, ok, oi⟩ ⟨pt, pk, pi⟩ W; rw [hcb] at this; exact this
        have A0 := Later.cell a0
        have A1 := Later.cell a1
        have A2 := Later.cell a2
        have B0 := Later.cell b0
        have B1 := Later.cell b1
        have B2 := Later.cell b2
        clear hcb
        by_cases htx : ot = pt
        · have htx' : (ot != pt) = false := by rw [htx]; simp
          clear a0 a1 a2 b0 b1 b2 htx
          refine region_later (by kernel_rfl) (by kernel_rfl) ?_
          repeat (go_big_quiet_step (fail))
          refine wpQuiet_nil ?_
          rintro _ ⟨u, rfl⟩
          go_wp2_with fail
          go_meet
          exact ⟨_, q + 1, rfl, by omega, HR7.out.below u.2, Only.of_below u.2⟩
        have htx' : (ot != pt) = true := by rw [bne_iff_ne]; exact htx
        cases cb
        · clear a0 a1 a2 b0 b1 b2 htx
          refine region_later (by kernel_rfl) (by kernel_rfl) ?_
          repeat (go_big_quiet_step ((go_at_call 90; exact later_call _ (HCF.out _))))
          refine wpQuiet_nil ?_
          rintro _ ⟨u, rfl⟩
          go_wp2_with fail
          go_meet
          exact ⟨_, q + 1, rfl, by omega, HR7.out.below u.2, Only.of_below u.2⟩
        · have d0 : w7.drew.cell? ⟨g, k * 3, none⟩ = some (.int .i64 ot) := a0
          have d1 : w7.drew.cell? ⟨g, k * 3 + 1, none⟩ = some (.int .i64 ok) := a1
          have d2 : w7.drew.cell? ⟨g, k * 3 + 2, none⟩ = some (.int .i64 oi) := a2
          have e0 : w7.drew.cell? ⟨g, (k + 1) * 3, none⟩ = some (.int .i64 pt) := b0
          have e1 : w7.drew.cell? ⟨g, (k + 1) * 3 + 1, none⟩ = some (.int .i64 pk) := b1
          have e2 : w7.drew.cell? ⟨g, (k + 1) * 3 + 2, none⟩ = some (.int .i64 pi) := b2
          clear a0 a1 a2 b0 b1 b2 htx A0 A1 A2 B0 B1 B2
          refine wp_region_any (by kernel_rfl) ?_
          change wpAny _ _ _ _ _ _ _ (World.drew _)
          refine wpAny_take (i := 0) (v := ?_) rfl (by kernel_rfl) (by kernel_rfl) (by kernel_rfl) (fun _ _ _ h => h) (Or.inl ⟨by kernel_rfl, ?_⟩) ?_
          rotate_left
          · intro w; go_simp; try with_reducible rfl
          refine wpAny_take (i := 1) (v := ?_) rfl (by kernel_rfl) (by kernel_rfl) (by kernel_rfl) (fun _ _ _ h => h) (Or.inl ⟨by kernel_rfl, ?_⟩) ?_
          rotate_left
          · intro w; go_simp; try with_reducible rfl
          refine wpAny_take (i := 2) (v := ?_) rfl (by kernel_rfl) (by kernel_rfl) (by kernel_rfl) (fun _ _ _ h => h) (Or.inl ⟨by kernel_rfl, ?_⟩) ?_
          rotate_left
          · intro w; go_simp; try with_reducible rfl
          refine wpAny_take (i := 3) (v := ?_) rfl (by kernel_rfl) (by kernel_rfl) (by kernel_rfl) (fun _ _ _ h => h) (Or.inl ⟨by kernel_rfl, ?_⟩) ?_
          rotate_left
          · intro w; go_simp; try with_reducible rfl
          refine wpAny_take (i := 5) (v := ?_) rfl (by kernel_rfl) (by kernel_rfl) (by kernel_rfl) (fun _ _ _ h => h) (Or.inl ⟨by kernel_rfl, ?_⟩) ?_
          rotate_left
          · intro w; go_simp; try with_reducible rfl
          refine wpAny_take (i := 6) (v := ?_) rfl (by kernel_rfl) (by kernel_rfl) (by kernel_rfl) (fun _ _ _ h => h) (Or.inl ⟨by kernel_rfl, ?_⟩) ?_
          rotate_left
          · intro w; go_simp; try with_reducible rfl
          refine wpAny_take (i := 7) (v := ?_) rfl (by kernel_rfl) (by kernel_rfl) (by kernel_rfl) (fun _ _ _ h => h) (Or.inl ⟨by kernel_rfl, ?_⟩) ?_
          rotate_left
          · intro w; go_simp; try with_reducible rfl
          refine wpAny_take (i := 8) (v := ?_) rfl (by kernel_rfl) (by kernel_rfl) (by kernel_rfl) (fun _ _ _ h => h) (Or.inl ⟨by kernel_rfl, ?_⟩) ?_
          rotate_left
          · intro w; go_simp; try with_reducible rfl
          refine wpAny_take (i := 9) (v := ?_) rfl (by kernel_rfl) (by kernel_rfl) (by kernel_rfl) (fun _ _ _ h => h) (Or.inl ⟨by kernel_rfl, ?_⟩) ?_
          rotate_left
          · intro w; go_simp; try with_reducible rfl
          refine wpAny_ready (rs := [4, 10]) (by kernel_rfl) (by simp) ?_
          refine AllReady.cons rfl (fun K hK => ?_) (AllReady.cons rfl (fun K hK => ?_) AllReady.nil)
          · go_simp
            refine hK _ _ ?_
            clear hK K
            refine wpAny_ready (rs := [10]) (by kernel_rfl) (by simp) ?_
            refine AllReady.cons rfl (fun K hK => ?_) AllReady.nil
            go_simp
            refine hK _ _ ?_
            clear hK K
            refine wpAny_take (i := 11) (v := ?_) rfl (by kernel_rfl) (by kernel_rfl) (by kernel_rfl) (fun _ _ _ h => h) (Or.inl ⟨by kernel_rfl, ?_⟩) ?_
            rotate_left
            · intro w; go_simp; try with_reducible rfl
            refine wpAny_take (i := 12) (v := ?_) rfl (by kernel_rfl) (by kernel_rfl) (by kernel_rfl) (fun _ _ _ h => h) (Or.inl ⟨by kernel_rfl, ?_⟩) ?_
            rotate_left
            · intro w; go_simp; try with_reducible rfl
            refine wpAny_take (i := 13) (v := ?_) rfl (by kernel_rfl) (by kernel_rfl) (by kernel_rfl) (fun _ _ _ h => h) (Or.inl ⟨by kernel_rfl, ?_⟩) ?_
            rotate_left
            · intro w; go_simp; try with_reducible rfl
            refine wpAny_take (i := 14) (v := ?_) rfl (by kernel_rfl) (by kernel_rfl) (by kernel_rfl) (fun _ _ _ h => h) (Or.inl ⟨by kernel_rfl, ?_⟩) ?_
            rotate_left
            · intro w; go_simp; try with_reducible rfl
            refine wpAny_take (i := 15) (v := ?_) rfl (by kernel_rfl) (by kernel_rfl) (by kernel_rfl) (fun _ _ _ h => h) (Or.inl ⟨by kernel_rfl, ?_⟩) ?_
            rotate_left
            · intro w; go_simp; try with_reducible rfl
            refine wpAny_take (i := 17) (v := ?_) rfl (by kernel_rfl) (by kernel_rfl) (by kernel_rfl) (fun _ _ _ h => h) (Or.inl ⟨by kernel_rfl, ?_⟩) ?_
            rotate_left
            · intro w; go_simp; try with_reducible rfl
            refine wpAny_take (i := 18) (v := ?_) rfl (by kernel_rfl) (by kernel_rfl) (by kernel_rfl) (fun _ _ _ h => h) (Or.inl ⟨by kernel_rfl, ?_⟩) ?_
            rotate_left
            · intro w; go_simp; try with_reducible rfl
            refine wpAny_take (i := 19) (v := ?_) rfl (by kernel_rfl) (by kernel_rfl) (by kernel_rfl) (fun _ _ _ h => h) (Or.inl ⟨by kernel_rfl, ?_⟩) ?_
            rotate_left
            · intro w; go_simp; try with_reducible rfl
            refine wpAny_take (i := 20) (v := ?_) rfl (by kernel_rfl) (by kernel_rfl) (by kernel_rfl) (fun _ _ _ h => h) (Or.inl ⟨by kernel_rfl, ?_⟩) ?_
            rotate_left
            · intro w; go_simp; try with_reducible rfl
            refine wpAny_ready (rs := [16, 21]) (by kernel_rfl) (by simp) ?_
            refine AllReady.cons rfl (fun K hK => ?_) (AllReady.cons rfl (fun K hK => ?_) AllReady.nil)
            · go_simp
              refine hK _ _ ?_
              clear hK K
              refine wpAny_ready (rs := [21]) (by kernel_rfl) (by simp) ?_
              refine AllReady.cons rfl (fun K hK => ?_) AllReady.nil
              go_simp
              refine hK _ _ ?_
              clear hK K
              refine wpAny_ready (rs := [22]) (by kernel_rfl) (by simp) ?_
              refine AllReady.cons rfl (fun K hK => ?_) AllReady.nil
              go_simp
              go_wp2_with (go_at_call 90; refine (HCF.out _).mono ?_; rintro e w8 ⟨rfl, hb8'⟩; have hb8 : Below w7.heap.size w7 w8 := (Below.refl _ _).drew.trans hb8'; have HP8 := Lib.hid (pick_any rb (q + 1) 4 w8 (HR7.out.below hb8) (by omega) (by omega)))
              try (refine hK _ _ ?_; clear hK K)
              refine wpAny_take (i := 23) (v := ?_) rfl (by kernel_rfl) (by kernel_rfl) (by kernel_rfl) (fun _ _ _ h => h) (Or.inl ⟨by kernel_rfl, ?_⟩) ?_
              rotate_left
              · intro w; go_simp; try with_reducible rfl
              refine wpAny_take (i := 24) (v := ?_) rfl (by kernel_rfl) (by kernel_rfl) (by kernel_rfl) (fun _ _ _ h => h) (Or.inl ⟨by kernel_rfl, ?_⟩) ?_
              rotate_left
              · intro w; go_simp; try with_reducible rfl
              refine wpAny_take (i := 25) (v := ?_) rfl (by kernel_rfl) (by kernel_rfl) (by kernel_rfl) (fun _ _ _ h => h) (Or.inl ⟨by kernel_rfl, ?_⟩) ?_
              rotate_left
              · intro w; go_simp; try with_reducible rfl
              refine wpAny_ready (rs := [26]) (by kernel_rfl) (by simp) ?_
              refine AllReady.cons rfl (fun K hK => ?_) AllReady.nil
              go_simp
              go_wp2_with (go_at_call 126; refine HP8.out.mono ?_; rintro e w9 ⟨v9, rfl, hR9, _, _, hO9'⟩; have hO9 : Only rb w7 w9 := (Only.of_below hb8).trans hO9')
              try (refine hK _ _ ?_; clear hK K)
              refine wpAny_take (i := 27) (v := ?_) rfl (by kernel_rfl) (by kernel_rfl) (by kernel_rfl) (fun _ _ _ h => h) (Or.inl ⟨by kernel_rfl, ?_⟩) ?_
              rotate_left
              · intro w; go_simp; try with_reducible rfl
              refine wpAny_take (i := 28) (v := ?_) rfl (by kernel_rfl) (by kernel_rfl) (by kernel_rfl) (fun _ _ _ h => h) (Or.inl ⟨by kernel_rfl, ?_⟩) ?_
              rotate_left
              · intro w; go_simp; try with_reducible rfl
              refine wpAny_take (i := 29) (v := ?_) rfl (by kernel_rfl) (by kernel_rfl) (by kernel_rfl) (fun _ _ _ h => h) (Or.inl ⟨by kernel_rfl, ?_⟩) ?_
              rotate_left
              · intro w; go_simp; try with_reducible rfl
              refine wpAny_done (by kernel_rfl) ?_ _
              try go_simp
              go_wp2_with fail
              go_meet
              exact ⟨_, q + 2, rfl, by omega, hR9, hO9⟩
            · go_simp
              refine hK _ _ ?_
              clear hK K
              refine wpAny_ready (rs := [16]) (by kernel_rfl) (by simp) ?_
              refine AllReady.cons rfl (fun K hK => ?_) AllReady.nil
              go_simp
              refine hK _ _ ?_
              clear hK K
              refine wpAny_ready (rs := [22]) (by kernel_rfl) (by simp) ?_
              refine AllReady.cons rfl (fun K hK => ?_) AllReady.nil
              go_simp
              go_wp2_with (go_at_call 90; refine (HCF.out _).mono ?_; rintro e w8 ⟨rfl, hb8'⟩; have hb8 : Below w7.heap.size w7 w8 := (Below.refl _ _).drew.trans hb8'; have HP8 := Lib.hid (pick_any rb (q + 1) 4 w8 (HR7.out.below hb8) (by omega) (by omega)))
              try (refine hK _ _ ?_; clear hK K)
              refine wpAny_take (i := 23) (v := ?_) rfl (by kernel_rfl) (by kernel_rfl) (by kernel_rfl) (fun _ _ _ h => h) (Or.inl ⟨by kernel_rfl, ?_⟩) ?_
              rotate_left
              · intro w; go_simp; try with_reducible rfl
              refine wpAny_take (i := 24) (v := ?_) rfl (by kernel_rfl) (by kernel_rfl) (by kernel_rfl) (fun _ _ _ h => h) (Or.inl ⟨by kernel_rfl, ?_⟩) ?_
              rotate_left
              · intro w; go_simp; try with_reducible rfl
              refine wpAny_take (i := 25) (v := ?_) rfl (by kernel_rfl) (by kernel_rfl) (by kernel_rfl) (fun _ _ _ h => h) (Or.inl ⟨by kernel_rfl, ?_⟩) ?_
              rotate_left
              · intro w; go_simp; try with_reducible rfl
              refine wpAny_ready (rs := [26]) (by kernel_rfl) (by simp) ?_
              refine AllReady.cons rfl (fun K hK => ?_) AllReady.nil
              go_simp
              go_wp2_with (go_at_call 126; refine HP8.out.mono ?_; rintro e w9 ⟨v9, rfl, hR9, _, _, hO9'⟩; have hO9 : Only rb w7 w9 := (Only.of_below hb8).trans hO9')
              try (refine hK _ _ ?_; clear hK K)
              refine wpAny_take (i := 27) (v := ?_) rfl (by kernel_rfl) (by kernel_rfl) (by kernel_rfl) (fun _ _ _ h => h) (Or.inl ⟨by kernel_rfl, ?_⟩) ?_
              rotate_left
              · intro w; go_simp; try with_reducible rfl
              refine wpAny_take (i := 28) (v := ?_) rfl (by kernel_rfl) (by kernel_rfl) (by kernel_rfl) (fun _ _ _ h => h) (Or.inl ⟨by kernel_rfl, ?_⟩) ?_
              rotate_left
              · intro w; go_simp; try with_reducible rfl
              refine wpAny_take (i := 29) (v := ?_) rfl (by kernel_rfl) (by kernel_rfl) (by kernel_rfl) (fun _ _ _ h => h) (Or.inl ⟨by kernel_rfl, ?_⟩) ?_
              rotate_left
              · intro w; go_simp; try with_reducible rfl
              refine wpAny_done (by kernel_rfl) ?_ _
              try go_simp
              go_wp2_with fail
              go_meet
              exact ⟨_, q + 2, rfl, by omega, hR9, hO9⟩
          · go_simp
            refine hK _ _ ?_
            clear hK K
            refine wpAny_ready (rs := [4]) (by kernel_rfl) (by simp) ?_
            refine AllReady.cons rfl (fun K hK => ?_) AllReady.nil
            go_simp
            refine hK _ _ ?_
            clear hK K
            refine wpAny_take (i := 11) (v := ?_) rfl (by kernel_rfl) (by kernel_rfl) (by kernel_rfl) (fun _ _ _ h => h) (Or.inl ⟨by kernel_rfl, ?_⟩) ?_
            rotate_left
            · intro w; go_simp; try with_reducible rfl
            refine wpAny_take (i := 12) (v := ?_) rfl (by kernel_rfl) (by kernel_rfl) (by kernel_rfl) (fun _ _ _ h => h) (Or.inl ⟨by kernel_rfl, ?_⟩) ?_
            rotate_left
            · intro w; go_simp; try with_reducible rfl
            refine wpAny_take (i := 13) (v := ?_) rfl (by kernel_rfl) (by kernel_rfl) (by kernel_rfl) (fun _ _ _ h => h) (Or.inl ⟨by kernel_rfl, ?_⟩) ?_
            rotate_left
            · intro w; go_simp; try with_reducible rfl
            refine wpAny_take (i := 14) (v := ?_) rfl (by kernel_rfl) (by kernel_rfl) (by kernel_rfl) (fun _ _ _ h => h) (Or.inl ⟨by kernel_rfl, ?_⟩) ?_
            rotate_left
            · intro w; go_simp; try with_reducible rfl
            refine wpAny_take (i := 15) (v := ?_) rfl (by kernel_rfl) (by kernel_rfl) (by kernel_rfl) (fun _ _ _ h => h) (Or.inl ⟨by kernel_rfl, ?_⟩) ?_
            rotate_left
            · intro w; go_simp; try with_reducible rfl
            refine wpAny_take (i := 17) (v := ?_) rfl (by kernel_rfl) (by kernel_rfl) (by kernel_rfl) (fun _ _ _ h => h) (Or.inl ⟨by kernel_rfl, ?_⟩) ?_
            rotate_left
            · intro w; go_simp; try with_reducible rfl
            refine wpAny_take (i := 18) (v := ?_) rfl (by kernel_rfl) (by kernel_rfl) (by kernel_rfl) (fun _ _ _ h => h) (Or.inl ⟨by kernel_rfl, ?_⟩) ?_
            rotate_left
            · intro w; go_simp; try with_reducible rfl
            refine wpAny_take (i := 19) (v := ?_) rfl (by kernel_rfl) (by kernel_rfl) (by kernel_rfl) (fun _ _ _ h => h) (Or.inl ⟨by kernel_rfl, ?_⟩) ?_
            rotate_left
            · intro w; go_simp; try with_reducible rfl
            refine wpAny_take (i := 20) (v := ?_) rfl (by kernel_rfl) (by kernel_rfl) (by kernel_rfl) (fun _ _ _ h => h) (Or.inl ⟨by kernel_rfl, ?_⟩) ?_
            rotate_left
            · intro w; go_simp; try with_reducible rfl
            refine wpAny_ready (rs := [16, 21]) (by kernel_rfl) (by simp) ?_
            refine AllReady.cons rfl (fun K hK => ?_) (AllReady.cons rfl (fun K hK => ?_) AllReady.nil)
            · go_simp
              refine hK _ _ ?_
              clear hK K
              refine wpAny_ready (rs := [21]) (by kernel_rfl) (by simp) ?_
              refine AllReady.cons rfl (fun K hK => ?_) AllReady.nil
              go_simp
              refine hK _ _ ?_
              clear hK K
              refine wpAny_ready (rs := [22]) (by kernel_rfl) (by simp) ?_
              refine AllReady.cons rfl (fun K hK => ?_) AllReady.nil
              go_simp
              go_wp2_with (go_at_call 90; refine (HCF.out _).mono ?_; rintro e w8 ⟨rfl, hb8'⟩; have hb8 : Below w7.heap.size w7 w8 := (Below.refl _ _).drew.trans hb8'; have HP8 := Lib.hid (pick_any rb (q + 1) 4 w8 (HR7.out.below hb8) (by omega) (by omega)))
              try (refine hK _ _ ?_; clear hK K)
              refine wpAny_take (i := 23) (v := ?_) rfl (by kernel_rfl) (by kernel_rfl) (by kernel_rfl) (fun _ _ _ h => h) (Or.inl ⟨by kernel_rfl, ?_⟩) ?_
              rotate_left
              · intro w; go_simp; try with_reducible rfl
              refine wpAny_take (i := 24) (v := ?_) rfl (by kernel_rfl) (by kernel_rfl) (by kernel_rfl) (fun _ _ _ h => h) (Or.inl ⟨by kernel_rfl, ?_⟩) ?_
              rotate_left
              · intro w; go_simp; try with_reducible rfl
              refine wpAny_take (i := 25) (v := ?_) rfl (by kernel_rfl) (by kernel_rfl) (by kernel_rfl) (fun _ _ _ h => h) (Or.inl ⟨by kernel_rfl, ?_⟩) ?_
              rotate_left
              · intro w; go_simp; try with_reducible rfl
              refine wpAny_ready (rs := [26]) (by kernel_rfl) (by simp) ?_
              refine AllReady.cons rfl (fun K hK => ?_) AllReady.nil
              go_simp
              go_wp2_with (go_at_call 126; refine HP8.out.mono ?_; rintro e w9 ⟨v9, rfl, hR9, _, _, hO9'⟩; have hO9 : Only rb w7 w9 := (Only.of_below hb8).trans hO9')
              try (refine hK _ _ ?_; clear hK K)
              refine wpAny_take (i := 27) (v := ?_) rfl (by kernel_rfl) (by kernel_rfl) (by kernel_rfl) (fun _ _ _ h => h) (Or.inl ⟨by kernel_rfl, ?_⟩) ?_
              rotate_left
              · intro w; go_simp; try with_reducible rfl
              refine wpAny_take (i := 28) (v := ?_) rfl (by kernel_rfl) (by kernel_rfl) (by kernel_rfl) (fun _ _ _ h => h) (Or.inl ⟨by kernel_rfl, ?_⟩) ?_
              rotate_left
              · intro w; go_simp; try with_reducible rfl
              refine wpAny_take (i := 29) (v := ?_) rfl (by kernel_rfl) (by kernel_rfl) (by kernel_rfl) (fun _ _ _ h => h) (Or.inl ⟨by kernel_rfl, ?_⟩) ?_
              rotate_left
              · intro w; go_simp; try with_reducible rfl
              refine wpAny_done (by kernel_rfl) ?_ _
              try go_simp
              go_wp2_with fail
              go_meet
              exact ⟨_, q + 2, rfl, by omega, hR9, hO9⟩
            · go_simp
              refine hK _ _ ?_
              clear hK K
              refine wpAny_ready (rs := [16]) (by kernel_rfl) (by simp) ?_
              refine AllReady.cons rfl (fun K hK => ?_) AllReady.nil
              go_simp
              refine hK _ _ ?_
              clear hK K
              refine wpAny_ready (rs := [22]) (by kernel_rfl) (by simp) ?_
              refine AllReady.cons rfl (fun K hK => ?_) AllReady.nil
              go_simp
              go_wp2_with (go_at_call 90; refine (HCF.out _).mono ?_; rintro e w8 ⟨rfl, hb8'⟩; have hb8 : Below w7.heap.size w7 w8 := (Below.refl _ _).drew.trans hb8'; have HP8 := Lib.hid (pick_any rb (q + 1) 4 w8 (HR7.out.below hb8) (by omega) (by omega)))
              try (refine hK _ _ ?_; clear hK K)
              refine wpAny_take (i := 23) (v := ?_) rfl (by kernel_rfl) (by kernel_rfl) (by kernel_rfl) (fun _ _ _ h => h) (Or.inl ⟨by kernel_rfl, ?_⟩) ?_
              rotate_left
              · intro w; go_simp; try with_reducible rfl
              refine wpAny_take (i := 24) (v := ?_) rfl (by kernel_rfl) (by kernel_rfl) (by kernel_rfl) (fun _ _ _ h => h) (Or.inl ⟨by kernel_rfl, ?_⟩) ?_
              rotate_left
              · intro w; go_simp; try with_reducible rfl
              refine wpAny_take (i := 25) (v := ?_) rfl (by kernel_rfl) (by kernel_rfl) (by kernel_rfl) (fun _ _ _ h => h) (Or.inl ⟨by kernel_rfl, ?_⟩) ?_
              rotate_left
              · intro w; go_simp; try with_reducible rfl
              refine wpAny_ready (rs := [26]) (by kernel_rfl) (by simp) ?_
              refine AllReady.cons rfl (fun K hK => ?_) AllReady.nil
              go_simp
              go_wp2_with (go_at_call 126; refine HP8.out.mono ?_; rintro e w9 ⟨v9, rfl, hR9, _, _, hO9'⟩; have hO9 : Only rb w7 w9 := (Only.of_below hb8).trans hO9')
              try (refine hK _ _ ?_; clear hK K)
              refine wpAny_take (i := 27) (v := ?_) rfl (by kernel_rfl) (by kernel_rfl) (by kernel_rfl) (fun _ _ _ h => h) (Or.inl ⟨by kernel_rfl, ?_⟩) ?_
              rotate_left
              · intro w; go_simp; try with_reducible rfl
              refine wpAny_take (i := 28) (v := ?_) rfl (by kernel_rfl) (by kernel_rfl) (by kernel_rfl) (fun _ _ _ h => h) (Or.inl ⟨by kernel_rfl, ?_⟩) ?_
              rotate_left
              · intro w; go_simp; try with_reducible rfl
              refine wpAny_take (i := 29) (v := ?_) rfl (by kernel_rfl) (by kernel_rfl) (by kernel_rfl) (fun _ _ _ h => h) (Or.inl ⟨by kernel_rfl, ?_⟩) ?_
              rotate_left
              · intro w; go_simp; try with_reducible rfl
              refine wpAny_done (by kernel_rfl) ?_ _
              try go_simp
              go_wp2_with fail
              go_meet
              exact ⟨_, q + 2, rfl, by omega, hR9, hO9⟩
      case rest =>
        obtain ⟨bb, q', rfl, hq', hR8, hO8⟩ := hcut
        have hrow8 : RowIs wc g 32 (opCells ys ++ rest) := HROW7.out.grown hO8 (by intro e; injection e with e; omega)
        have hO18 := HO17.out.trans hO8
        have hyw : IntKind.i64.wrap (y - 1) = y - 1 := IntWalk.i64_in _ (by omega)
        cases bb
        · have HN : Hid (∃ (y' : Int) (q : Nat) (ys : List OpV), Value.int .i64 (y - 1) = .int .i64 y' ∧ y' ≤ 8 ∧ q + 2 * y'.toNat ≤ 40100 ∧ ys.length = n ∧ Rd wc rb q ∧ Only rb w1 wc ∧ RowIs wc g 32 (opCells ys ++ rest)) :=
            ⟨y - 1, q', ys, rfl, by omega, by omega, HYL.out, hR8, hO18, hrow8⟩
          clear hR8 hO8 hrow8 hO18
          go_wp2_with fail
          go_roundw
          case rel => exact HN.out
          case measure => simp [intOf]; omega
        · obtain ⟨a0, a1, a2⟩ := HCK.out wc hrow8
          obtain ⟨V8, hV8⟩ : ∃ V8, V8 = wc.alloc (.cells #[.int .i64 ot, .int .i64 ok, .int .i64 oi] 32) := ⟨_, rfl⟩
          obtain ⟨e0, e1, e2, hb8, hs8⟩ := op_box hV8
          have hrowV : RowIs V8 g 32 (opCells ys ++ rest) := hrow8.below hb8 (Nat.le_refl _)
          obtain ⟨b0, b1, b2⟩ := HCP.out V8 hrowV
          try simp only at a0 a1 a2 b0 b1 b2
          have f0 := e0 ⟨V8, Below.refl _ _⟩
          have f1 := e1 ⟨V8, Below.refl _ _⟩
          have f2 := e2 ⟨V8, Below.refl _ _⟩
          try simp only at f0 f1 f2
          have HRV := Lib.hid hrowV
          have HR8 := Lib.hid hrow8
          have hgl := hrow8.lt
          have HFIN : Hid (∀ (S : World) (ob : Obj), RowIs S g 32 (opCells ((ys.set k ⟨pt, pk, pi⟩).set (k + 1) ⟨ot, ok, oi⟩) ++ rest) → wc.grownBy S (some g) →
              ∃ (y' : Int) (q : Nat) (ys : List OpV), Value.int .i64 (y - 1) = .int .i64 y' ∧ y' ≤ 8 ∧ q + 2 * y'.toNat ≤ 40100 ∧ ys.length = n ∧ Rd (S.alloc ob) rb q ∧ Only rb w1 (S.alloc ob) ∧ RowIs (S.alloc ob) g 32 (opCells ys ++ rest)) := fun S ob hr h9 => by
            refine ⟨y - 1, q', _, rfl, by omega, by omega, HLEN.out.2.2, (hR8.grown h9 (fun k hk => by injection hk with hk; omega)).alloc _, (hO18.grown h9 (fun k hk => by injection hk with hk; omega)).alloc _, hr.alloc _⟩
          clear hrow8 hrowV e0 e1 e2 hb8 hR8 hO8 hO18
          subst hV8
          have z0 := HR8.out.frozen (k * 3)
          have z1 := HR8.out.frozen (k * 3 + 1)
          have z2 := HR8.out.frozen (k * 3 + 2)
          have y0 := HR8.out.frozen ((k + 1) * 3)
          have y1 := HR8.out.frozen ((k + 1) * 3 + 1)
          have y2 := HR8.out.frozen ((k + 1) * 3 + 2)
          obtain ⟨c0, c1, c2⟩ := HCP.out wc HR8.out
          try simp only at c0 c1 c2
          have hgw : g ≠ wc.heap.size := by omega
          have hgw' : wc.heap.size ≠ g := by omega
          have m1 : ¬ ((k + 1) * 3 = k * 3 + 1) := by omega
          have m2 : ¬ ((k + 1) * 3 = k * 3 + 2) := by omega
          have m3 : ¬ ((k + 1) * 3 + 1 = k * 3) := by omega
          have m4 : ¬ ((k + 1) * 3 + 1 = k * 3 + 2) := by omega
          have m5 : ¬ ((k + 1) * 3 + 2 = k * 3) := by omega
          have m6 : ¬ ((k + 1) * 3 + 2 = k * 3 + 1) := by omega
          have m7 : ¬ (k * 3 + 1 = (k + 1) * 3) := by omega
          have m8 : ¬ (k * 3 + 2 = (k + 1) * 3) := by omega
          have m9 : ¬ (k * 3 + 2 = (k + 1) * 3 + 1) := by omega
          have m10 : ¬ (k * 3 + 1 = (k + 1) * 3 + 2) := by omega
          go_wp2_with fail
          go_roundw
          case rel => exact HFIN.out _ _ (put_row ⟨ot, ok, oi⟩ (put_row ⟨pt, pk, pi⟩ HR8.out HLEN.out.1) HLEN.out.2.1) (World.grownBy.trans put_grown put_grown)
          case measure => simp [intOf]; omega
    · have HT : Hid (TwoOps w rb (.returned (.tuple #[.slice A n c, .slice (some ⟨g, 0, none⟩) n d])) wo) :=
        ⟨A, n, c, xs, _, n, d, ys, rfl, hnc, hmd, by omega, by omega, HXA.out.only hO HFAR.out, hrow.ops hyl (by omega), HO1.out.trans hO⟩
      clear hR hO hrow hyl
      go_wp2_with fail
      go_ret2
      exact HT.out
end Go.Proofs.Ytkbclcgdkbhgdaa
