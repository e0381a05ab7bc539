/-
  ViewOrders of the reference: the walk. Rows picked from a list of lists.
-/
import Derived.Test.YtkbclcgdkbhgdaaQIvsView11
import Derived.Test.YtkbclcgdkbhgdaaQIvsView15
import Derived.Test.YtkbclcgdkbhgdaaQIvsViewP0
import Derived.Test.YtkbclcgdkbhgdaaQIvsTime1
import Derived.Test.YtkbclcgdkbhgdaaPkOrdX2
import Derived.Deep.Cut
namespace Go.Proofs.Ytkbclcgdkbhgdaa
open Go.RowKit Go.BigFrame
set_option linter.unusedVariables false

def pkF (f : List Int → Bool) (xss : List (List Int)) (q : Nat) : List (List Int) := (xss.take q).filter f
theorem pkF_succ {f : List Int → Bool} {xss : List (List Int)} {q : Nat} {xs : List Int} (h : xss[q]? = some xs) : pkF f xss (q + 1) = pkF f xss q ++ if f xs then [xs] else [] := by
  unfold pkF
  rw [take_snoc h, List.filter_append]
  cases hh : f xs <;> simp [hh]
theorem pkF_all {f : List Int → Bool} {xss : List (List Int)} : pkF f xss xss.length = xss.filter f := by unfold pkF; rw [List.take_length]
theorem pkF_len {f : List Int → Bool} {xss : List (List Int)} {q : Nat} : (pkF f xss q).length ≤ xss.length := Nat.le_trans (List.length_filter_le _ _) (by simp; omega)

/-- What lies while the rows are picked: all blocks of V but bo stand; bo is the picked rows' first one. -/
structure PkInv (f : List Int → Bool) (w w2 V : World) (bo : Nat) (xss : List (List Int)) (q : Nat) (ov : Value) (wr : World) : Prop where
  below : Below w.heap.size w wr
  sz : V.heap.size ≤ wr.heap.size
  keep : ∀ g, g < V.heap.size → g ≠ bo → wr.heap[g]? = V.heap[g]?
  own : ∃ rv', wr.ownsRow w.heap.size 40 1 ov (pkF f xss q).length rv' ∧ RowsR w2 V rv' (pkF f xss q)
  blk : ∀ g, ov.ownBlock = some g → g = bo ∨ V.heap.size ≤ g
theorem PkInv.later {f : List Int → Bool} {w w2 V : World} {bo : Nat} {xss : List (List Int)} {q : Nat} {ov : Value} {wr W : World} (h : PkInv f w w2 V bo xss q ov wr) (hb : Below wr.heap.size wr W) : PkInv f w w2 V bo xss q ov W := by
  obtain ⟨h1, h2, h3, ⟨rv', h4, h5⟩, h6⟩ := h
  exact ⟨h1.trans (hb.mono h1.size), Nat.le_trans h2 hb.size, fun g g1 g2 => (hb.block g (by omega)).trans (h3 g g1 g2), ⟨rv', own_below h4 hb, h5⟩, h6⟩
theorem PkInv.skip {f : List Int → Bool} {w w2 V : World} {bo : Nat} {xss : List (List Int)} {q : Nat} {ov : Value} {wr : World} (h : PkInv f w w2 V bo xss q ov wr) {xs : List Int} (hx : xss[q]? = some xs) (ho : f xs = false) : PkInv f w w2 V bo xss (q + 1) ov wr := by
  obtain ⟨h1, h2, h3, ⟨rv', h4, h5⟩, h6⟩ := h
  have e : pkF f xss (q + 1) = pkF f xss q := by rw [pkF_succ hx, ho]; simp
  exact ⟨h1, h2, h3, ⟨rv', by rw [e]; exact h4, by rw [e]; exact h5⟩, h6⟩
theorem PkInv.push {f : List Int → Bool} {w w2 V : World} {bo : Nat} {A : Option Addr} {n : Nat} {rv : List Value} {xss : List (List Int)} {q : Nat} {ov : Value} {wr : World} (h : PkInv f w w2 V bo xss q ov wr) (hG : GLists w2 V A n rv xss) (hbo : bo < w2.heap.size) (hw : w.heap.size ≤ bo) {xs : List Int} (hx : xss[q]? = some xs) (ho : f xs = true)
    {B : Option Addr} {m c : Nat} (hm : xs.length = m) (hrv : rv[q]? = some (.slice B m c)) :
    ∃ N rv', N ≤ xss.length ∧ wr.ownsRow w.heap.size 40 1 ov N rv' ∧ w.heap.size ≤ wr.heap.size ∧ ∀ (t : TypeId) (v' : Value) (w3 : World), w3.ownsRow w.heap.size 40 1 v' (N + 1) (rv' ++ [.slice B m c]) → (wr.alloc (.cells #[.slice B m c] t)).grownBy w3 ov.ownBlock →
      (v'.ownBlock = ov.ownBlock ∨ v'.ownBlock = some (wr.alloc (.cells #[.slice B m c] t)).heap.size) → PkInv f w w2 V bo xss (q + 1) v' w3 := by
  obtain ⟨h1, h2, h3, ⟨rv', h4, h5⟩, h6⟩ := h
  subst hm
  have e : pkF f xss (q + 1) = pkF f xss q ++ [xs] := by rw [pkF_succ hx, ho]; simp
  refine ⟨_, rv', pkF_len, h4, h1.size, fun t v' w3 hown hg hat => ?_⟩
  have hgs := World.grownBy.size hg
  have hb1 : Below w.heap.size w (wr.alloc (.cells #[.slice B xs.length c] t)) := h1.alloc h1.size _
  have hob : ∀ g, ov.ownBlock = some g → w.heap.size ≤ g := fun g hg' => by
    rcases h6 g hg' with e | e
    · omega
    · have := h1.size
      rcases h4.2 with ⟨e1, _⟩ | ⟨g', cap, cur, e1, e2, _⟩
      · rw [e1] at hg'; cases hg'
      · rw [e1] at hg'
        have : g' = g := by simpa [Value.ownBlock] using hg'
        omega
  obtain ⟨C, d, hC, hcd, hfr⟩ := hG.rows.2 q xs hx
  rw [hrv] at hC
  injection hC with hC
  injection hC with q1 _ q3
  subst q1; subst q3
  refine ⟨hb1.grown hg hb1.size hob, ?_, fun g g1 g2 => ?_, ⟨rv' ++ [.slice B xs.length c], ?_, ?_⟩, ?_⟩
  · simp at hgs; omega
  · refine (hg.block g (by simp; omega) (fun e => ?_)).trans ((Below.heap_alloc _ _ _ (by omega)).trans (h3 g g1 g2))
    rcases h6 g (by first | exact e | exact e.symm) with e | e <;> omega
  · rw [e]; simpa using hown
  · rw [e]; exact h5.append (RowsR.lit rfl hcd hfr)
  · intro g hg'
    rcases hat with hat | hat
    · exact h6 g (by rw [← hat]; exact hg')
    · rw [hat] at hg'
      injection hg' with hg'
      simp at hg'
      omega
theorem PkInv.done {f : List Int → Bool} {A : Option Addr} {n : Nat} {w w2 V : World} {bo : Nat} {rv : List Value} {xss : List (List Int)} {ov : Value} {wr : World} (h : PkInv f w w2 V bo xss xss.length ov wr) (hG : GLists w2 V A n rv xss) (hbo : bo < w2.heap.size) (hw2 : w.heap.size ≤ w2.heap.size) :
    ∃ Ao co N, ov = .slice Ao N co ∧ RetLists w (xss.filter f) (.returned (.slice Ao N co)) wr := by
  obtain ⟨h1, h2, h3, ⟨rv', h4, h5⟩, h6⟩ := h
  obtain ⟨Ao, co, rfl, hco⟩ := own_form2 h4
  have hr : RowsR w2 wr rv' (pkF f xss xss.length) := h5.turned h2 fun g g1 g2 _ => h3 g g2 (by omega)
  refine ⟨Ao, co, _, rfl, ?_⟩
  rw [← pkF_all]
  exact ⟨Ao, _, rv', rfl, hco, OuterR.of_own h4 (Nat.le_refl _) hr.one, hr.since hw2, h1⟩
theorem zero_rows {W : World} {b : Nat} (h : W.heap[b]? = some (.cells #[.int .i64 0, .int .i64 0, .int .i64 0, .int .i64 0] 3 (0, 0))) : RInts W (some ⟨b, 0, none⟩) 4 (rowsI noRows) := by
  have hr : RowIs W b 3 (intCells (rowsI noRows)) := h
  exact RowIs.ints (ys := rowsI noRows) (rest := []) (by rw [List.append_nil]; exact hr) rfl (by simp)
theorem run_mk4 (w : World) : (Instr.makeSlice 40 (.int .i64 4) (.int .i64 4)).run Try.prog w = .ok (.slice (some ⟨w.heap.size, 0, none⟩) 4 4) (w.alloc (.cells #[.int .i64 0, .int .i64 0, .int .i64 0, .int .i64 0] 3)) := by
  obtain ⟨i0, hi, hz0, hz1, hz2⟩ := info_parts intInfo
  have := run_makeSlice (P := Try.prog) (w := w) 40 3 i0 _ Try.underlying40 hi hz0 .i64 .i64 4 4 (by decide) (by omega) (by rw [hz1]; omega) (by rw [hz2]; omega) (by omega)
  rw [hz1] at this
  have e : madeCells (Value.int .i64 0).cells (Int.toNat 4 * 1) = #[.int .i64 0, .int .i64 0, .int .i64 0, .int .i64 0] := by first | rfl | decide | kernel_rfl
  rw [e] at this
  exact this
theorem noRows_ok : Rows4 noRows := zero4

theorem top_zero {V Wt : World} {L : Option Addr} {n lc z b : Nat} {LL : List Int} (hl : RInts Wt L n LL) (hz : Wt.heap[z]? = some (.cells #[.int .i64 0, .int .i64 0, .int .i64 0, .int .i64 0] 3 (0, 0))) (hr : ∀ t ∈ LL, 0 ≤ t ∧ t ≤ 3) (h4 : n ≤ 4) (hb : Below V.heap.size V Wt) :
    Calls Try.prog 71 #[.slice L n lc, .slice (some ⟨z, 0, none⟩) 4 4, .slice (some ⟨b, 0, none⟩) 0 0] Wt (RetLists V (topF LL noRows n [])) :=
  (top_any n L (some ⟨b, 0, none⟩) (some ⟨z, 0, none⟩) n lc 0 0 4 LL [] noRows Wt ⟨hl, RInts.nil, zero_rows hz⟩ noRows_ok hr h4 (by omega)).mono fun e w' h => RetLists.from hb h
theorem zz1 (w4 : World) : ((w4.alloc (.cells #[.int .i64 0, .int .i64 0, .int .i64 0, .int .i64 0] 3)).alloc (.cells #[] 3)).heap[w4.heap.size]? = some (.cells #[.int .i64 0, .int .i64 0, .int .i64 0, .int .i64 0] 3 (0, 0)) :=
  (Below.heap_alloc _ _ _ (by simp)).trans (heap_alloc_new _ _)
theorem zz2 (w4 : World) : ((w4.alloc (.cells #[] 3)).alloc (.cells #[.int .i64 0, .int .i64 0, .int .i64 0, .int .i64 0] 3)).heap[w4.heap.size + 1]? = some (.cells #[.int .i64 0, .int .i64 0, .int .i64 0, .int .i64 0] 3 (0, 0)) := by
  have h := heap_alloc_new (w4.alloc (.cells #[] 3)) (.cells #[.int .i64 0, .int .i64 0, .int .i64 0, .int .i64 0] 3)
  rw [show (w4.alloc (.cells #[] 3)).heap.size = w4.heap.size + 1 by simp] at h
  exact h
theorem zz0 (w4 : World) : (w4.alloc (.cells #[.int .i64 0, .int .i64 0, .int .i64 0, .int .i64 0] 3)).heap[w4.heap.size]? = some (.cells #[.int .i64 0, .int .i64 0, .int .i64 0, .int .i64 0] 3 (0, 0)) := heap_alloc_new _ _
theorem two_below (w4 : World) (a b : Obj) : Below w4.heap.size w4 ((w4.alloc a).alloc b) := ((Below.refl _ _).alloc (Nat.le_refl _) _).alloc (by simp) _
theorem one_below (w4 : World) (a : Obj) : Below w4.heap.size w4 (w4.alloc a) := (Below.refl _ _).alloc (Nat.le_refl _) _

set_option maxRecDepth 100000 in
set_option maxHeartbeats 2000000 in
theorem sViewOrders_any (A : Option Addr) (n c : Nat) (s : List OpV) (w : World) (hx : ROps w A n s) (hnc : n ≤ c) :
    Calls Try.prog 53 #[.slice A n c] w (RetLists w (orNil (validS s) (vwOS s))) := by
  have HX := Lib.hid hx
  clear hx
  go_enter Try.func53, Try.ntmps53
  go_wp2_with fail
  refine (svalid_any A n c s w HX.out).mono ?_
  rintro e w1 ⟨rfl, hb⟩
  cases hv : validS s
  · have HV := Lib.hid hv
    clear hv
    go_wp2_with fail
    go_ret
    rw [HV.out]
    exact RetLists.nil hb
  have HV := Lib.hid hv
  have HVK : Hid (validS (committed s) = true) := validS_committed hv
  have HC := Lib.hid (scommitted_any A n c s w1 (HX.out.below hb (Nat.le_refl _)))
  have HOO : Hid (vwOS s = (topF (txsOf (committed s)) noRows (txsOf (committed s)).length []).filter fun p => viewB (committed s) (serialI (committed s) p)) := rfl
  have HTL : Hid (∀ p ∈ topF (txsOf (committed s)) noRows (txsOf (committed s)).length [], p.Nodup ∧ p.length ≤ 4) := fun p hp => by
    rw [noRows_top (nodup_txsOf _)] at hp
    have h1 := permF_nodup _ [] (by simp) p hp
    have h2 := permF_length _ _ _ hp
    have := txsOf_len (committed s)
    simp at h2
    exact ⟨h1, by omega⟩
  have HTN : Hid ((topF (txsOf (committed s)) noRows (txsOf (committed s)).length []).length ≤ 256) := by
    refine Nat.le_trans (topF_len (txsOf_len _) _ _) ?_
    exact Nat.pow_le_pow_right (n := 4) (by omega) (txsOf_len _)
  have hL4 : (txsOf (committed s)).length ≤ 4 := txsOf_len _
  have HRL := Lib.hid (txsOf_rng0 (committed s))
  clear hv
  generalize vwOS s = res at *
  generalize committed s = KL at *
  have hK16 : KL.length ≤ 16 := ((validS_iff KL).1 HVK.out).1
  obtain ⟨k, hk⟩ : ∃ k, KL.length = k := ⟨_, rfl⟩
  go_wp2_with fail
  refine HC.out.mono ?_
  rintro e w2 ⟨C, cc, rfl, hcc, hfr0, hb2⟩
  have HCL : Hid (∀ ad, C = some ad → ad.block < w2.heap.size) := FreshOps.blk hfr0
  have hfc := hfr0.1
  clear hfr0
  have hb02 := hb.trans (hb2.mono hb.size)
  rw [hk] at hfc hcc
  obtain ⟨V, hV⟩ : ∃ V, V = w2.alloc (.cells #[] 40) := ⟨_, rfl⟩
  have hbV : Below w2.heap.size w2 V := by rw [hV]; exact (Below.refl _ _).alloc (Nat.le_refl _) _
  have hsV : V.heap.size = w2.heap.size + 1 := by rw [hV]; simp
  have hown0 : V.ownsRow w.heap.size 40 1 (.slice (some ⟨w2.heap.size, 0, none⟩) 0 0) 0 [] := by
    rw [hV]; exact World.ownsRow_made (base := w.heap.size) (e := 40) (size := 1) w2 #[] 0 hb02.size (by decide) rfl
  have hCV := hfc.below hbV (Nat.le_refl _)
  have HT : Hid (∀ W, Below V.heap.size V W → Calls Try.prog 72 #[.slice C k cc] W (RetInts W (txsOf KL))) := fun W h => stxs_any C k cc KL W (hCV.below h (Nat.le_refl _))
  have HCV := Lib.hid hCV
  have HOWN := Lib.hid hown0
  have HCB : Hid (∀ p ∈ topF (txsOf KL) noRows (txsOf KL).length [], validS (serialI KL p) = true) := fun p hp => validS_serial HVK.out (HTL.out p hp).1
  generalize txsOf KL = LL at *
  obtain ⟨n4, hn4⟩ : ∃ n4, LL.length = n4 := ⟨_, rfl⟩
  rw [hn4] at HOO HTL HTN hL4 HCB
  have HN4 := Lib.hid hn4
  have HVV := Lib.hid hV
  have HSV := Lib.hid hsV
  clear hsV hfc hV hCV hown0 HC hb2
  have hmk := run_mk4
  go_wp2_with fail
  rw [← HVV.out]
  go_cut [5] from 13 (fun v wx => RetLists V (topF LL noRows n4 []) (.returned v) wx)
  case first =>
    go_region_with (first
      | (go_at_call 72; refine (HT.out _ (by first | exact (Below.refl _ _).drew | exact ((Below.refl _ V).drew).alloc (Nat.le_refl _) _ | exact (((Below.refl _ V).drew).alloc (Nat.le_refl _) _).alloc (by simp <;> omega) _)).mono ?_; rintro e w4 ⟨L, lc, rfl, hlc, ⟨hfl, _⟩, hb4⟩; rw [HN4.out] at hfl; have hbV4 : Below V.heap.size V w4 := Below.trans (by first | exact (Below.refl _ _).drew | exact ((Below.refl _ V).drew).alloc (Nat.le_refl _) _ | exact (((Below.refl _ V).drew).alloc (Nat.le_refl _) _).alloc (by simp <;> omega) _) (hb4.mono (by first | exact Nat.le_refl _ | (simp <;> omega))))
      | (go_at_call 71; refine Calls.mono (top_zero (V := V) (by first | exact hfl | exact hfl.below (one_below _ _) (Nat.le_refl _) | exact hfl.below (two_below _ _ _) (Nat.le_refl _)) (by first | exact zz0 _ | exact zz1 _ | exact zz2 _ | exact (hb4.block _ (by simp <;> omega)).trans (zz0 _) | exact (hb4.block _ (by simp <;> omega)).trans (zz1 _) | exact (hb4.block _ (by simp <;> omega)).trans (zz2 _) | exact (Below.heap_alloc _ _ _ (by have := hb4.size; simp at this; omega)).trans ((hb4.block _ (by simp <;> omega)).trans (zz0 _))) HRL.out hL4 (by first | exact hbV4 | exact hbV4.trans ((one_below _ _).mono hbV4.size) | exact hbV4.trans ((two_below _ _ _).mono hbV4.size))) ?_; intro e w5 hret; obtain ⟨A6, c6, rv, rfl, h2, h3, h4', h6⟩ := hret; have HRT : Hid (RetLists V (topF LL noRows n4 []) (.returned (.slice A6 (topF LL noRows n4 []).length c6)) w5) := ⟨A6, c6, rv, rfl, h2, h3, h4', h6⟩; clear h2 h3 h4' h6))
    all_goals
      go_wp2_with fail
      go_meet
      exact HRT.out
  case rest =>
    obtain ⟨A6, c6, rv, e5, hc6, hou, hro, hbR⟩ := hcut
    injection e5 with e5
    subst e5
    have hsR := hbR.size
    have hsV := HSV.out
    have hbwR := (hb02.trans (hbV.mono hb02.size)).trans (hbR.mono (by have := hb02.size; omega))
    obtain ⟨f, hf⟩ : ∃ f, f = fun p => viewB KL (serialI KL p) := ⟨_, rfl⟩
    have HF : Hid (∀ p, f p = viewB KL (serialI KL p)) := fun p => by rw [hf]
    rw [← hf] at HOO
    have HST : Hid (PkInv f w V wc w2.heap.size (topF LL noRows n4 []) 0 (.slice (some ⟨w2.heap.size, 0, none⟩) 0 0) wc) := by
      refine ⟨hbwR, Nat.le_refl _, fun _ _ _ => rfl, ⟨[], own_below HOWN.out hbR, RowsR.nil⟩, fun g hg => ?_⟩
      simp [Value.ownBlock] at hg; exact .inl hg.symm
    have HG : Hid (GLists V wc A6 (topF LL noRows n4 []).length rv (topF LL noRows n4 [])) := ⟨hou, hro⟩
    have HCW := Lib.hid (HCV.out.below hbR (Nat.le_refl _))
    generalize topF LL noRows n4 [] = xss at *
    obtain ⟨N, hN⟩ : ∃ N, xss.length = N := ⟨_, rfl⟩
    rw [hN] at HG hc6 ⊢
    have HN := Lib.hid hN
    have hN1 : N ≤ 256 := by have := HTN.out; omega
    have hw2 := hb02.size
    clear hf hN hou hro hbR hsV HOWN HT
    go_wp2_with fail
    go_loopw [4, 6] (fun o i wr => ∃ (q : Nat) (ov : Value), q ≤ N ∧ i = .int .i64 q ∧ o = ov ∧ PkInv f w V wc w2.heap.size xss q ov wr) (fun _ i _ => N - (intOf i).toNat)
    case atStart => exact ⟨0, _, Nat.zero_le _, rfl, rfl, HST.out⟩
    case round =>
      clear HST
      obtain ⟨wo, rfl⟩ : ∃ wo : World, wo = wr := ⟨_, rfl⟩
      obtain ⟨q, ov, hq, rfl, hov, hI⟩ := hrel
      have hov2 := hov.symm
      clear hov
      subst hov2
      have HI := Lib.hid hI
      have hV2 := HSV.out
      by_cases hlt : q < N
      · have hGo := HG.out.turned hI.sz fun g h1 h2 => hI.keep g h2 (by omega)
        obtain ⟨bA, rfl, hbA, hbA2, hcell⟩ := hGo.outer.cells (by omega)
        obtain ⟨xs, hxs⟩ : ∃ xs, xss[q]? = some xs := ⟨_, List.getElem?_eq_getElem (by rw [HN.out]; exact hlt)⟩
        obtain ⟨B, d, hrv, hmd, hfr⟩ := hGo.rows.2 q xs hxs
        have hcq := hcell q _ hrv
        rw [Nat.zero_add] at hcq
        have hxr := hfr.1
        obtain ⟨hnd, hm4⟩ := HTL.out xs (List.mem_of_getElem? hxs)
        have hvx := HCB.out xs (List.mem_of_getElem? hxs)
        have hCr : ROps wo C k KL := HCW.out.kept hI.sz fun ad had hlt => hI.keep _ hlt (by have := HCL.out ad had; omega)
        obtain ⟨m, hm⟩ : ∃ m, xs.length = m := ⟨_, rfl⟩
        rw [hm] at hrv hmd hxr hcq hm4
        have HS := Lib.hid (sserial_any C B k cc m d KL xs wo hCr hxr (by omega) (by omega))
        obtain ⟨vb, hvb⟩ : ∃ vb, viewB KL (serialI KL xs) = vb := ⟨_, rfl⟩
        have hfx : f xs = vb := (HF.out xs).trans hvb
        have HVS : Hid (∀ (W' : World) (S : Option Addr) (sc : Nat), Below wo.heap.size wo W' → ROps W' S (serialI KL xs).length (serialI KL xs) → Calls Try.prog 57 #[.slice C k cc, .slice S (serialI KL xs).length sc] W' fun e w' => e = .returned (.bool vb) ∧ Below W'.heap.size W' w') := fun W' S sc h h2 => by
          have := sviewSame_any C S k _ cc sc KL (serialI KL xs) W' (hCr.below h (Nat.le_refl _)) h2 HVK.out hvx
          rw [hvb] at this; exact this
        have HPUSH : Hid (vb = true → ∀ W, Below wo.heap.size wo W → ∃ N0 rv', N0 ≤ N ∧ W.ownsRow w.heap.size 40 1 ov N0 rv' ∧ w.heap.size ≤ W.heap.size ∧ ∀ (t : TypeId) (v' : Value) (w3 : World), w3.ownsRow w.heap.size 40 1 v' (N0 + 1) (rv' ++ [.slice B m d]) → (W.alloc (.cells #[.slice B m d] t)).grownBy w3 ov.ownBlock →
            (v'.ownBlock = ov.ownBlock ∨ v'.ownBlock = some (W.alloc (.cells #[.slice B m d] t)).heap.size) → PkInv f w V wc w2.heap.size xss (q + 1) v' w3) := fun ho W hW => by
          have := (HI.out.later hW).push HG.out (by omega) hw2 hxs (hfx.trans ho) hm hrv
          rw [HN.out] at this
          exact this
        have HSKIP : Hid (vb = false → ∀ W, Below wo.heap.size wo W → PkInv f w V wc w2.heap.size xss (q + 1) ov W) := fun ho W hW => (HI.out.skip hxs (hfx.trans ho)).later hW
        generalize serialI KL xs = SX at *
        obtain ⟨sl, hsl⟩ : ∃ sl, SX.length = sl := ⟨_, rfl⟩
        have HSL := Lib.hid hsl
        have hqi : (q : Int) < (N : Int) := by omega
        have hq0 : (0 : Int) ≤ (q : Int) := by omega
        have HCQ := Lib.hid hcq
        clear hI hGo hcell hxs hrv hfr hxr hm hnd hvx hCr hvb hfx
        go_wp2_with fail
        refine HS.out.mono ?_
        rintro e w5 ⟨S, sc, rfl, hsc, hfs, hb5⟩
        have HV5 := Lib.hid (HVS.out w5 S sc hb5 hfs.1)
        have c5 := (hb5.cell (p := ⟨bA, q, none⟩) hbA2).trans hcq
        rw [HSL.out] at HV5
        clear hfs hsc
        go_wp2_with fail
        refine HV5.out.mono ?_
        rintro e w6 ⟨rfl, hb6'⟩
        have hb6 := hb5.trans (hb6'.mono hb5.size)
        have c6' := (hb6.cell (p := ⟨bA, q, none⟩) hbA2).trans HCQ.out
        clear hb5 hb6' c5 hcq
        cases vb
        · have HN2 := Lib.hid (HSKIP.out rfl w6 hb6)
          go_wp2_with fail
          go_roundw
          case rel => exact ⟨q + 1, _, by omega, by go_num, rfl, HN2.out⟩
          case measure => simp [intOf]; omega
        · obtain ⟨N0, rv', hN0, hown, hwz, hnext⟩ := HPUSH.out rfl w6 hb6
          have HNX := Lib.hid hnext
          clear hnext
          go_wp2_with (at_builtin; refine app_rows (.tmp 32) (.tmp 37) (hown.alloc _) (by simp; omega) (Src.one _ (.slice B m d) _ rfl) (by omega) rfl rfl rfl rfl ?_; intro v3 w3 hown3 hg3 hat3)
          have HNN := Lib.hid (HNX.out _ v3 w3 hown3 hg3 hat3)
          clear HNX hown3 hg3 hat3 hown
          go_wp2_with fail
          go_roundw
          case rel => exact ⟨q + 1, _, by omega, by go_num, rfl, HNN.out⟩
          case measure => simp [intOf]; omega
      · obtain rfl : q = N := by omega
        have hI2 := hI
        rw [← HN.out] at hI2
        obtain ⟨Ao, co, N2, rfl, hret⟩ := hI2.done HG.out (by omega) (by omega)
        rw [← HOO.out] at hret
        have HRET := Lib.hid hret
        clear hI hI2 hret HI
        go_wp2_with fail
        go_ret
        rw [HV.out]
        exact HRET.out
end Go.Proofs.Ytkbclcgdkbhgdaa
