/-
  Texts that the proof rests on, joined: part 19.
-/
import Derived.Test.YtncebpmckbcabaaSKp9
import Derived.Test.YtncebpmckbcabaaSKp18
namespace Go.Proofs.Ytncebpmckbcabaa
open Go.RowKit Go.BigFrame
set_option linter.unusedVariables false

def wRowL (D : Dsk) (t : Int) : List Int := match (opsOf D.wait t).head? with | some o => if isEnd o then [] else inWayI D.locks t o.item o.kind | none => []
theorem wRowL_rng {D : Dsk} {t : Int} : ∀ u ∈ wRowL D t, 0 ≤ u ∧ u ≤ 3 := by
  intro u hu
  unfold wRowL at hu
  split at hu
  · split at hu
    · cases hu
    · exact inWay_rng u hu
  · cases hu
def wIn (T : Nat) (rows : List Nat) (us : List Int) : List Nat := us.foldl (fun R u => rowSet R (T : Int) u) rows
def wtTo (D : Dsk) : Nat → List Nat
  | 0 => [0, 0, 0, 0]
  | k + 1 => wIn k (wtTo D k) (wRowL D (k : Int))
theorem wIn_ok {T : Nat} {us : List Int} (h : ∀ u ∈ us, 0 ≤ u ∧ u ≤ 3) : ∀ {rows : List Nat}, Rows4 rows → Rows4 (wIn T rows us) := by
  induction us with
  | nil => exact fun h4 => h4
  | cons u r ih => exact fun h4 => ih (fun v hv => h v (List.mem_cons_of_mem _ hv)) (rowSet_ok h4 (h u (by simp)))
theorem wIn_bit {T : Nat} (hT : T ≤ 3) {us : List Int} (h : ∀ u ∈ us, 0 ≤ u ∧ u ≤ 3) : ∀ {rows : List Nat}, Rows4 rows → ∀ t u : Nat, ((wIn T rows us).getD t 0).testBit u = true ↔ (rows.getD t 0).testBit u = true ∨ (t = T ∧ (u : Int) ∈ us) := by
  induction us with
  | nil => intro rows h4 t u; simp [wIn]
  | cons v r ih =>
    intro rows h4 t u
    have hv := h v (by simp)
    obtain ⟨U, rfl⟩ := Int.eq_ofNat_of_zero_le hv.1
    show ((wIn T (rowSet rows (T : Int) (U : Int)) r).getD t 0).testBit u = true ↔ _
    rw [ih (fun x hx => h x (List.mem_cons_of_mem _ hx)) (rowSet_ok h4 hv), rowSet_bit h4 hT, Bool.or_eq_true, Bool.and_eq_true, decide_eq_true_eq, decide_eq_true_eq, List.mem_cons]
    constructor
    · rintro ((h1 | h1) | h1)
      · exact .inl h1
      · exact .inr ⟨h1.1, .inl (by omega)⟩
      · exact .inr ⟨h1.1, .inr h1.2⟩
    · rintro (h1 | ⟨h1, h2 | h2⟩)
      · exact .inl (.inl h1)
      · exact .inl (.inr ⟨h1, by omega⟩)
      · exact .inr ⟨h1, h2⟩
theorem wtTo_ok (D : Dsk) (k : Nat) : Rows4 (wtTo D k) := by
  induction k with
  | zero => exact zero4
  | succ k ih => exact wIn_ok wRowL_rng ih
theorem wtTo_bit (D : Dsk) (k : Nat) (hk : k ≤ 4) (t u : Nat) : ((wtTo D k).getD t 0).testBit u = true ↔ t < k ∧ (u : Int) ∈ wRowL D (t : Int) := by
  induction k with
  | zero =>
    have : ((wtTo D 0).getD t 0) = 0 := by
      show ([0, 0, 0, 0] : List Nat).getD t 0 = 0
      match t with
      | 0 | 1 | 2 | 3 => rfl
      | t + 4 => rfl
    rw [this]
    simp
  | succ k ih =>
    show ((wIn k (wtTo D k) (wRowL D (k : Int))).getD t 0).testBit u = true ↔ _
    rw [wIn_bit (by omega) wRowL_rng (wtTo_ok D k), ih (by omega)]
    constructor
    · rintro (⟨h1, h2⟩ | ⟨h1, h2⟩)
      · exact ⟨by omega, h2⟩
      · subst h1; exact ⟨by omega, h2⟩
    · rintro ⟨h1, h2⟩
      by_cases e : t = k
      · subst e; exact .inr ⟨rfl, h2⟩
      · exact .inl ⟨by omega, h2⟩
theorem waitRow_mem {D : Dsk} {t : Int} {u : Nat} : (waitRow D t).testBit u = true ↔ (u : Int) ∈ wRowL D t := by
  rw [waitRow_bit]
  unfold wRowL
  split
  · rename_i o ho
    rw [ho]
    split
    · rename_i he; simp [he]
    · rename_i he; simp [he]
  · rename_i ho
    rw [ho]
    simp
theorem wtTo_four (D : Dsk) : wtTo D 4 = waitsR D := rows_ext (wtTo_ok D 4) (waitsR_ok D) fun t u ht hu => by
  rw [Bool.eq_iff_iff, wtTo_bit D 4 (Nat.le_refl _), waitsR_at D ht, waitRow_mem]
  exact ⟨fun h => h.2, fun h => ⟨ht, h⟩⟩

theorem wIn_snoc {T : Nat} {rows : List Nat} {us : List Int} {p : Nat} {u : Int} (h : us[p]? = some u) : wIn T rows (us.take (p + 1)) = rowSet (wIn T rows (us.take p)) (T : Int) u := by
  unfold wIn
  rw [List.take_add_one, h, Option.toList_some, List.foldl_append, List.foldl_cons, List.foldl_nil]
/-- What the walk keeps. -/
structure WtI (W0 : World) (B g : Nat) (V : DV) (D : Dsk) (rows : List Nat) (wr : World) : Prop where
  rows : SgInv W0 W0.heap.size rows wr
  desk : DeskAt wr B V D
  box : Boxed wr g V
section
variable {W0 wr W : World} {B g : Nat} {V : DV} {D : Dsk} {rows : List Nat}
theorem WtI.later (h : WtI W0 B g V D rows wr) (hb : Below wr.heap.size wr W) : WtI W0 B g V D rows W := ⟨h.rows.later hb, h.desk.below hb, h.box.below hb⟩
theorem WtI.drew (h : WtI W0 B g V D rows wr) : WtI W0 B g V D rows wr.drew := ⟨h.rows.drew, h.desk.drew, h.box⟩
theorem WtI.set (h : WtI W0 B g V D rows wr) (hf : NotIn V W0.heap.size) (hg : g < W0.heap.size) {T : Nat} {u : Int} (hT : T ≤ 3) (h4 : Rows4 rows) {v : Int} (hv : v = ((rows.getD T 0 ||| (1 <<< u.toNat) : Nat) : Int)) :
    WtI W0 B g V D (rowSet rows T u) (wr.setCell ⟨W0.heap.size, T, none⟩ (.int .i64 v)) :=
  ⟨h.rows.set (Nat.le_refl _) hT h4 hv, h.desk.set hf T _, h.box.other (by omega) T _⟩
end
/-- A call hands back rows. -/
def RetRows (w : World) (R : List Nat) (e : Ending) (w' : World) : Prop := ∃ G gc, e = .returned (.slice G 4 gc) ∧ RInts w' G 4 (rowsI R) ∧ Below w.heap.size w w'

set_option maxRecDepth 100000 in
set_option maxHeartbeats 1000000 in
theorem waits_any (B : Nat) (V : DV) (D : Dsk) (w : World) (hd : DeskAt w B V D) (hL : D.locks.length ≤ 9000) (hWt : D.wait.length ≤ 9000) :
    Calls Try.prog 63 #[V.val] w (RetRows w (waitsR D)) := by
  obtain ⟨i0, hi, hz0, hz1, hz2⟩ := info_parts intInfo
  obtain ⟨W0, hW⟩ : ∃ W : World, W = w.alloc (.cells V.list.toArray 28) := ⟨_, rfl⟩
  have hD0 : DeskAt W0 B V D := by rw [hW]; exact hd.alloc _
  have hB0 : Boxed W0 w.heap.size V := by rw [hW]; exact Boxed.new w V
  have hbW : Below w.heap.size w W0 := by rw [hW]; exact (Below.refl _ _).alloc (Nat.le_refl _) _
  have hfar : NotIn V W0.heap.size := hD0.far (Nat.le_refl _)
  have hgl := RowIs.lt hB0
  obtain ⟨Ad, Aw, Al, Ak, nd, nw, nl, nk, cd, cw, cl, ck, rfl, hcs, h1, h2, h3, h4⟩ := hd.forms
  have hbd : nl ≤ 9000 ∧ nw ≤ 9000 := by omega
  have H2 := Lib.hid h2
  have H3 := Lib.hid h3
  have HD0 := Lib.hid hD0
  have HB0 := Lib.hid hB0
  have HBW := Lib.hid hbW
  have HFAR := Lib.hid hfar
  unfold DV.list at hW
  simp only at hW
  change W0 = w.alloc (.cells #[.slice Ad nd cd, .slice Aw nw cw, .slice Al nl cl, .slice Ak nk ck] _) at hW
  have HW := Lib.hid hW
  clear hD0 hB0 hbW hfar hd h1 h2 h3 h4 hW
  unfold DV.val
  simp only
  go_enter Try.func63, Try.ntmps63
  go_wp2_with (at_make; rw [← HW.out]; refine wpList_make_full _ rfl _ _ 26 rfl W0.heap.size 3 i0 _ 1 Try.underlying26 hi hz0 hz1 .i64 .i64 _ _ 4 rfl rfl rfl rfl (by rw [hz2]; omega) (by unfold maxLen; omega) (Nat.le_refl _) ?_; intro w1 hown1 hg1)
  have hb1 : Below W0.heap.size W0 w1 := ⟨hg1.os, hg1.tape, hg1.output, hg1.size, fun k hk => hg1.block k hk (by simp)⟩
  have hrow : RowIs w1 W0.heap.size 3 (intCells (rowsI [0, 0, 0, 0]) ++ []) := by
    rcases hown1.2 with ⟨h1, _⟩ | ⟨g, cap, cur, h1, h2, h3, h4, h5, h6, h7⟩
    · cases h1
    · injection h1 with ha hb hc
      injection ha with ha
      injection ha with ha
      subst ha; subst hc
      unfold RowIs
      rw [h3]
      congr 2
      apply Array.ext'
      rw [List.take_of_length_le (by simpa using Nat.le_of_eq h6)] at h7
      rw [h7, made_ints]
      rfl
  have HST : Hid (WtI W0 B w.heap.size ⟨.slice Ad nd cd, .slice Aw nw cw, .slice Al nl cl, .slice Ak nk ck⟩ D (wtTo D 0) w1) := ⟨⟨hb1, hrow⟩, HD0.out.below hb1, HB0.out.below hb1⟩
  clear hown1 hb1 hg1 hrow hi hz0 hz1 hz2 HW HD0 HB0
  go_loopw [4] (fun i wr => ∃ k : Nat, k ≤ 4 ∧ i = .int .i64 k ∧ WtI W0 B w.heap.size ⟨.slice Ad nd cd, .slice Aw nw cw, .slice Al nl cl, .slice Ak nk ck⟩ D (wtTo D k) wr) (fun i _ => 4 - (intOf i).toNat)
  case atStart => exact ⟨0, Nat.zero_le _, rfl, HST.out⟩
  case round =>
    clear HST
    obtain ⟨wo, rfl⟩ : ∃ wo : World, wo = wr := ⟨_, rfl⟩
    obtain ⟨k, hk, rfl, hI⟩ := hrel
    have HI := Lib.hid hI
    have hbs := hI.rows.below.size
    by_cases hlt : k < 4
    · have hok := wtTo_ok D k
      have hsu : wtTo D (k + 1) = wIn k (wtTo D k) (wRowL D (k : Int)) := rfl
      obtain ⟨b0, b1, b2, b3⟩ := hI.box.cells
      simp only at b0 b1 b2 b3
      have hro : ROps wo Aw nw D.wait := ROps.of_own (hI.desk.waitN H2.out) (by omega)
      obtain ⟨RO, hRO⟩ : ∃ R, wtTo D k = R := ⟨_, rfl⟩
      obtain ⟨MI, hMI⟩ : ∃ M, opsOf D.wait (k : Int) = M := ⟨_, rfl⟩
      have hOP := sopsOf_any Aw nw cw D.wait (k : Int) wo hro
      rw [hMI] at hOP
      obtain ⟨q, hq⟩ : ∃ q, MI.length = q := ⟨_, rfl⟩
      have HQ := Lib.hid hq
      have HRO := Lib.hid hRO
      have HMI := Lib.hid hMI
      have HOP := Lib.hid hOP
      have HOK := Lib.hid hok
      have HSU := Lib.hid hsu
      have hk4 : (k : Int) < 4 := by omega
      clear hI hro hOP hRO hMI hq hok hsu
      rw [HRO.out] at HI HOK
      cases hMC : MI with
      | nil =>
        have HWR : Hid (wRowL D (k : Int) = []) := by show _ = _; unfold wRowL; rw [HMI.out, hMC]; rfl
        have hq0 : q = 0 := by have := HQ.out; rw [hMC] at this; exact this.symm
        subst hq0
        clear hMC
        go_wp2_with (go_at_call 91; go_loud (refine HOP.out.mono ?_; rintro e w2 ⟨MA, mc, rfl, hmc, ⟨hrm, _⟩, hb2⟩; rw [HQ.out] at hmc hrm ⊢; have HI2 := Lib.hid (HI.out.later hb2)))
        go_roundw
        case rel => exact ⟨k + 1, by omega, by go_num, by rw [HSU.out, HRO.out, HWR.out]; exact HI2.out⟩
        case measure => simp [intOf]; omega
      | cons o rest =>
        have HO0 : Hid (MI[0]? = some o) := by show _ = _; rw [hMC]; rfl
        have hq1 : 0 < q := by have := HQ.out; rw [hMC] at this; simp at this; omega
        have hw0 : (opsOf D.wait (k : Int)).head? = some o := by rw [HMI.out, hMC]; rfl
        have HW0 := Lib.hid hw0
        clear hMC hw0
        obtain ⟨tx, kd, it⟩ := o
        obtain ⟨be, hbe⟩ : ∃ b, isEnd ⟨tx, kd, it⟩ = b := ⟨_, rfl⟩
        have HBE := Lib.hid hbe
        clear hbe
        cases be
        · have HWR : Hid (wRowL D (k : Int) = inWayI D.locks (k : Int) it kd) := by show _ = _; unfold wRowL; rw [HW0.out]; simp only; rw [if_neg (by rw [HBE.out]; simp)]
          obtain ⟨XS, hXS⟩ : ∃ XS, inWayI D.locks (k : Int) it kd = XS := ⟨_, rfl⟩
          obtain ⟨m, hm⟩ : ∃ m, XS.length = m := ⟨_, rfl⟩
          have HXS := Lib.hid hXS
          have HM := Lib.hid hm
          have hxr : ∀ u ∈ XS, 0 ≤ u ∧ u ≤ 3 := by rw [← hXS]; exact inWay_rng
          have hm4 : m ≤ 4 := by rw [← hm, ← hXS]; exact List.length_filter_le _ _
          have HXR := Lib.hid hxr
          clear hXS hm hxr
          go_wp2_with (first
            | (go_at_call 91; go_loud (refine HOP.out.mono ?_; rintro e w2 ⟨MA, mc, rfl, hmc, ⟨hrm, _⟩, hb2⟩; rw [HQ.out] at hmc hrm ⊢; have HI2 := Lib.hid (HI.out.later hb2); obtain ⟨bm, om, o2, hMA, _, ho2, e0, e1, e2⟩ := hrm.at_ (k := 0) (by omega); rw [HO0.out] at ho2; injection ho2 with ho2; subst ho2; subst hMA; simp only [Nat.zero_mul, Nat.add_zero] at e0 e1 e2; clear hrm hb2 b0 b1 b2 b3))
            | (go_at_call 89; go_loud (refine (sends_any ⟨tx, kd, it⟩ _).mono ?_; rintro e w3 ⟨rfl, hb3⟩; rw [HBE.out]; have HI3 := Lib.hid (HI2.out.later hb3); have g1 := Later.cell e1 ⟨w3, hb3⟩; have g2 := Later.cell e2 ⟨w3, hb3⟩; simp only at g1 g2; clear hb3 e0 e1 e2)))
          obtain ⟨c0, c1, c2, c3⟩ := HI3.out.box.cells
          simp only at c0 c1 c2 c3
          obtain ⟨wd, hwd⟩ : ∃ wd : World, wd = w3.drew := ⟨_, rfl⟩
          have HID : Hid (WtI W0 B w.heap.size ⟨.slice Ad nd cd, .slice Aw nw cw, .slice Al nl cl, .slice Ak nk ck⟩ D RO wd) := by show WtI _ _ _ _ _ _ _; rw [hwd]; exact HI3.out.drew
          have hIW := inWay_any Al nl cl D.locks (k : Int) it kd wd (ROps.of_own (HID.out.desk.locksN (n := nl) H3.out) (by omega))
          rw [HXS.out] at hIW
          have HIW := Lib.hid hIW
          have HWD := Lib.hid hwd
          clear hIW HOP hwd
          refine wp_region_still_tail 11 (by kernel_rfl) (by kernel_rfl) ?_
          simp only [List.take_succ_cons, List.take_zero, List.drop_succ_cons, List.drop_zero]
          repeat (first | still_step)
          refine wpStill_nil ?_
          change wpList _ _ _ _ _ w3.drew
          rw [← HWD.out]
          go_wp2_with (go_at_call 101; go_loud (refine HIW.out.mono ?_; rintro e w4 ⟨LA, lc, rfl, hlc, ⟨hrl, hfl⟩, hb4⟩; rw [HM.out] at hlc hrl ⊢))
          have HI4 := Lib.hid (HID.out.later hb4)
          have hne : ∀ ad, LA = some ad → ad.block ≠ W0.heap.size := fun ad had e => by
            obtain ⟨bb, cur, h1, h2, _⟩ := hfl ad had
            subst h1
            have := HID.out.rows.below.size
            have := RowIs.lt HID.out.rows.row
            simp only at e
            omega
          have HNE := Lib.hid hne
          have HRL := Lib.hid hrl
          clear hrl hfl hb4 hne HID HI3 HI HI2 c0 c1 c2 c3 HWD HIW g1 g2
          go_loopw [7] (fun i wr => ∃ p : Nat, p ≤ m ∧ i = .int .i64 p ∧ WtI W0 B w.heap.size ⟨.slice Ad nd cd, .slice Aw nw cw, .slice Al nl cl, .slice Ak nk ck⟩ D (wIn k RO (XS.take p)) wr ∧ RInts wr LA m XS) (fun i _ => m - (intOf i).toNat)
          case atStart => exact ⟨0, Nat.zero_le _, rfl, HI4.out, HRL.out⟩
          case round =>
            clear HI4 HRL
            obtain ⟨wi, rfl⟩ : ∃ wi : World, wi = wr := ⟨_, rfl⟩
            obtain ⟨p, hp, rfl, hJ, hRL⟩ := hrel
            have HJ := Lib.hid hJ
            have HRLI := Lib.hid hRL
            have hok2 : Rows4 (wIn k RO (XS.take p)) := wIn_ok (fun u hu => HXR.out u (List.mem_of_mem_take hu)) HOK.out
            by_cases hltp : p < m
            · obtain ⟨bL, oL, uu, hLA, hbl, hu, z0⟩ := hRL.at_ hltp
              subst hLA
              have hsn := wIn_snoc (T := k) (rows := RO) hu
              have hur := HXR.out uu (List.mem_of_getElem? hu)
              obtain ⟨U, rfl⟩ := Int.eq_ofNat_of_zero_le hur.1
              have hk3 : k ≤ 3 := by omega
              obtain ⟨hcr, hfz, hr16⟩ := hJ.rows.at_ hok2 hk3
              have hneL := HNE.out _ rfl
              simp only at hneL
              obtain ⟨RJ, hRJ⟩ : ∃ R, wIn k RO (XS.take p) = R := ⟨_, rfl⟩
              rw [hRJ] at hsn hcr hr16 hok2 HJ
              obtain ⟨r, hr⟩ : ∃ r, RJ.getD k 0 = r := ⟨_, rfl⟩
              obtain ⟨wd2, hwd⟩ : ∃ wd : World, wd = wi.drew := ⟨_, rfl⟩
              have hP2 : (2 ^ U : Nat) < 16 := by
                rcases (by omega : U = 0 ∨ U = 1 ∨ U = 2 ∨ U = 3) with e | e | e | e <;> rw [e] <;> decide
              have HSET : Hid (∀ v : Int, v = ((r ||| 2 ^ U : Nat) : Int) → WtI W0 B w.heap.size ⟨.slice Ad nd cd, .slice Aw nw cw, .slice Al nl cl, .slice Ak nk ck⟩ D (wIn k RO (XS.take (p + 1))) (wd2.setCell ⟨W0.heap.size, k, none⟩ (.int .i64 v)) ∧ RInts (wd2.setCell ⟨W0.heap.size, k, none⟩ (.int .i64 v)) (some ⟨bL, oL, none⟩) m XS) := by
                intro v hv
                rw [hsn, hwd]
                refine ⟨HJ.out.drew.set HFAR.out hgl hk3 hok2 (by rw [hr, hv, Int.toNat_natCast, Nat.one_shiftLeft]), ?_⟩
                exact (show RInts wi.drew _ _ _ from HRLI.out).grown grown_set fun ad had e => by injection had with had; subst had; injection e with e; exact hneL e.symm
              rw [hr] at hcr hr16
              have hor := or_nat r (2 ^ U) (by omega) (by omega)
              have hPW : ∀ W : World, Calls Try.prog 102 #[.int .i64 (U : Int)] W fun e w' => e = .returned (.int .i64 ((2 ^ U : Nat) : Int)) ∧ w' = W := fun W => (spower_any U W (by omega)).mono fun e w' h => ⟨h.1, h.2.symm⟩
              generalize hPP : 2 ^ U = p2 at *
              have HPW := Lib.hid hPW
              have hk0 : (0 : Int) ≤ (k : Int) := by omega
              have hpm : (p : Int) < (m : Int) := by omega
              have hp0 : (0 : Int) ≤ (p : Int) := by omega
              have hcr2 : wd2.cell? ⟨W0.heap.size, k, none⟩ = some (.int .i64 (r : Int)) := by rw [hwd]; exact hcr
              have hfz2 : wd2.frozen? ⟨W0.heap.size, k, none⟩ = false := by rw [hwd]; exact hfz
              have HHS := Lib.hid hP2
              clear hr hsn hPP hPW hP2 hRJ hJ hRL hu hok2 HJ HRLI
              go_wp2_with fail
              refine wp_region_still_tail 13 (by kernel_rfl) (by kernel_rfl) ?_
              simp only [List.take_succ_cons, List.take_zero, List.drop_succ_cons, List.drop_zero]
              repeat (first | still_step | still_call (HPW.out _))
              refine wpStill_nil ?_
              change wpList _ _ _ _ _ wi.drew
              rw [← hwd]
              go_wp2_with fail
              go_roundw
              case rel => exact ⟨p + 1, by omega, by go_num, (by first | exact HSET.out _ rfl | (have h := HSET.out _ rfl; rw [hwd] at h; exact h))⟩
              case measure => simp [intOf]; omega
            · have hfin : Hid (WtI W0 B w.heap.size ⟨.slice Ad nd cd, .slice Aw nw cw, .slice Al nl cl, .slice Ak nk ck⟩ D (wtTo D (k + 1)) wi) := by
                show WtI _ _ _ _ _ _ _
                rw [HSU.out, HRO.out, HWR.out, HXS.out]
                have e : XS.take p = XS := List.take_of_length_le (by have := HM.out; omega)
                rw [e] at hJ
                exact hJ
              clear hJ hRL HJ HRLI hok2
              go_wp2_with fail
              go_roundw
              case rel => exact ⟨k + 1, by omega, by go_num, hfin.out⟩
              case measure => simp [intOf]; omega
        · have HWR : Hid (wRowL D (k : Int) = []) := by show _ = _; unfold wRowL; rw [HW0.out]; simp only; rw [if_pos HBE.out]
          go_wp2_with (first
            | (go_at_call 91; go_loud (refine HOP.out.mono ?_; rintro e w2 ⟨MA, mc, rfl, hmc, ⟨hrm, _⟩, hb2⟩; rw [HQ.out] at hmc hrm ⊢; have HI2 := Lib.hid (HI.out.later hb2); obtain ⟨bm, om, o2, hMA, _, ho2, e0, e1, e2⟩ := hrm.at_ (k := 0) (by omega); rw [HO0.out] at ho2; injection ho2 with ho2; subst ho2; subst hMA; simp only [Nat.zero_mul, Nat.add_zero] at e0 e1 e2; clear hrm hb2 b0 b1 b2 b3))
            | (go_at_call 89; go_loud (refine (sends_any ⟨tx, kd, it⟩ _).mono ?_; rintro e w3 ⟨rfl, hb3⟩; rw [HBE.out]; have HI3 := Lib.hid (HI2.out.later hb3); have g1 := Later.cell e1 ⟨w3, hb3⟩; have g2 := Later.cell e2 ⟨w3, hb3⟩; simp only at g1 g2; clear hb3 e0 e1 e2)))
          go_roundw
          case rel => exact ⟨k + 1, by omega, by go_num, by rw [HSU.out, HRO.out, HWR.out]; exact HI3.out⟩
          case measure => simp [intOf]; omega
    · obtain rfl : k = 4 := by omega
      rw [wtTo_four] at hI
      have HO : Hid (RetRows w (waitsR D) (.returned (.slice (some ⟨W0.heap.size, 0, none⟩) 4 4)) wo) := by
        have h4 : (rowsI (waitsR D)).length = 4 := rfl
        exact ⟨_, _, rfl, hI.rows.row.ints h4 (by omega), HBW.out.trans (hI.rows.below.mono HBW.out.size)⟩
      clear hI
      go_wp2_with fail
      go_ret
      exact HO.out
end Go.Proofs.Ytncebpmckbcabaa
namespace Go.Proofs.Ytncebpmckbcabaa
open Go.RowKit
set_option linter.unusedVariables false

theorem find_first {p : Nat → Bool} {n i : Nat} (hi : i < n) (h : p i = true) (hno : ∀ j, j < i → p j = false) : (List.range n).find? p = some i := by
  rw [List.find?_range_eq_some]
  exact ⟨h, by simpa using hi, fun j hj => by rw [hno j hj]; rfl⟩
theorem find_no {p : Nat → Bool} {n : Nat} (hno : ∀ j, j < n → p j = false) : (List.range n).find? p = none := by
  rw [List.find?_eq_none]
  intro j hj
  rw [hno j (List.mem_range.1 hj)]
  simp
section
variable {d : Dsk} {i : Nat} {o : OpV}
theorem next_free (r : Rul) (hi : d.wait[i]? = some o) (h : freeB d i = true) (hno : ∀ j, j < i → freeB d j = false) : nextD r d = some (grantD ⟨d.done, d.wait.take i ++ d.wait.drop (i + 1), d.locks, d.dead⟩ o) := by
  simp only [nextD, find_first (List.getElem?_eq_some_iff.1 hi).1 h hno, getD_at hi]
theorem next_die (hf : ∀ j, j < d.wait.length → freeB d j = false) (hi : d.wait[i]? = some o) (h : dieB d i = true) (hno : ∀ j, j < i → dieB d j = false) : nextD .die d = some (killD d o.tx) := by
  simp only [nextD, find_no hf, find_first (List.getElem?_eq_some_iff.1 hi).1 h hno, getD_at hi]
theorem next_die_no (hf : ∀ j, j < d.wait.length → freeB d j = false) (hno : ∀ j, j < d.wait.length → dieB d j = false) : nextD .die d = none := by
  simp only [nextD, find_no hf, find_no hno]
theorem next_wound (hf : ∀ j, j < d.wait.length → freeB d j = false) (hi : d.wait[i]? = some o) (h : woundB d i = true) (hno : ∀ j, j < i → woundB d j = false) : nextD .wound d = some (killD d ((wayO d.locks o).getLastD 0)) := by
  simp only [nextD, find_no hf, find_first (List.getElem?_eq_some_iff.1 hi).1 h hno, getD_at hi]
theorem next_wound_no (hf : ∀ j, j < d.wait.length → freeB d j = false) (hno : ∀ j, j < d.wait.length → woundB d j = false) : nextD .wound d = none := by
  simp only [nextD, find_no hf, find_no hno]
theorem next_wait (hf : ∀ j, j < d.wait.length → freeB d j = false) (hc : cycT (waitsR d) ≠ []) : nextD .wait d = some (killD d (maxL (cycT (waitsR d)))) := by
  simp only [nextD, find_no hf]
  rw [if_neg (by simpa using hc)]
theorem next_wait_no (hf : ∀ j, j < d.wait.length → freeB d j = false) (hc : cycT (waitsR d) = []) : nextD .wait d = none := by
  simp only [nextD, find_no hf]
  rw [if_pos (by rw [hc]; rfl)]
theorem free_eq (hi : d.wait[i]? = some o) : freeB d i = (frstB d.wait i && (wayO d.locks o).isEmpty) := by unfold freeB; rw [hi]
theorem die_eq (hi : d.wait[i]? = some o) : dieB d i = (frstB d.wait i && decide ((wayO d.locks o).headD 0 < o.tx)) := by unfold dieB; rw [hi]
theorem wound_eq (hi : d.wait[i]? = some o) : woundB d i = (frstB d.wait i && decide (o.tx < (wayO d.locks o).getLastD 0)) := by unfold woundB; rw [hi]
theorem way_acc (h : isEnd o = false) (L : List OpV) : wayO L o = inWayI L o.tx o.item o.kind := by unfold wayO; rw [if_neg (by rw [h]; simp)]
theorem way_end (h : isEnd o = true) (L : List OpV) : wayO L o = [] := by unfold wayO; rw [if_pos h]
/-- The first of its transaction that is not free: an access, and some are in its way. -/
theorem blocked (hi : d.wait[i]? = some o) (hf : frstB d.wait i = true) (hn : freeB d i = false) : isEnd o = false ∧ wayO d.locks o = inWayI d.locks o.tx o.item o.kind ∧ wayO d.locks o ≠ [] := by
  have h := way_ne hi hf hn
  cases he : isEnd o
  · exact ⟨rfl, way_acc he _, h⟩
  · exact absurd (way_end he _) h
theorem snoc_no {p : Nat → Bool} {k : Nat} (h : ∀ j, j < k → p j = false) (hk : p k = false) : ∀ j, j < k + 1 → p j = false := fun j hj => by
  by_cases e : j = k
  · subst e; exact hk
  · exact h j (by omega)
end
end Go.Proofs.Ytncebpmckbcabaa
