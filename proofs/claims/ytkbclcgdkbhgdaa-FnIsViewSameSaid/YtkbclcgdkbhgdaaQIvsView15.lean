/-
  ViewOrders of the program: the walk.
-/
import Derived.Test.YtkbclcgdkbhgdaaQIvsPerm8
import Derived.Test.YtkbclcgdkbhgdaaPkOrdX3
import Derived.Test.YtkbclcgdkbhgdaaQIvsView14
import Derived.Test.YtkbclcgdkbhgdaaQIvsViewP0
import Derived.Test.YtkbclcgdkbhgdaaPkOrdX1
import Derived.Sort.CutIn
namespace Go.Proofs.Ytkbclcgdkbhgdaa
open Go.RowKit Go.BigFrame Go.Shelf
set_option linter.unusedVariables false
attribute [local go_sem] Oper.semAt_some

/-- What lies where the loop over the orders begins. -/
theorem vw_start (w2 w3 wT wL : World) (C L : Option Addr) (k cc ln lc base : Nat) (hbase : base ≤ w2.heap.size)
    (h3 : ((w2.alloc (.cells #[.slice C k cc] 25)).alloc (.cells #[] 40)).alloc (.cells #[.slice (some ⟨w2.heap.size + 1, 0, none⟩) 0 0] 33) = w3) (hb : Below w3.heap.size w3 wT) (hL : wT.alloc (.cells #[.slice L ln lc] 40) = wL) :
    Below w2.heap.size w2 w3 ∧ Below w2.heap.size w2 wL ∧ w3.heap.size = w2.heap.size + 3 ∧ wL.heap.size = wT.heap.size + 1 ∧ w3.cell? ⟨w2.heap.size, 0, none⟩ = some (.slice C k cc) ∧ wL.cell? ⟨w2.heap.size, 0, none⟩ = some (.slice C k cc) ∧ wL.cell? ⟨w2.heap.size + 2, 0, none⟩ = some (.slice (some ⟨w2.heap.size + 1, 0, none⟩) 0 0) ∧ wL.frozen? ⟨w2.heap.size + 2, 0, none⟩ = false ∧
      wL.cell? ⟨wT.heap.size, 0, none⟩ = some (.slice L ln lc) ∧ wL.ownsRow base 40 1 (.slice (some ⟨w2.heap.size + 1, 0, none⟩) 0 0) 0 [] := by
  obtain ⟨u1, h1⟩ : ∃ u1, w2.alloc (.cells #[.slice C k cc] 25) = u1 := ⟨_, rfl⟩
  rw [h1] at h3
  obtain ⟨u2, h2⟩ : ∃ u2, u1.alloc (.cells #[] 40) = u2 := ⟨_, rfl⟩
  rw [h2] at h3
  have s1 : u1.heap.size = w2.heap.size + 1 := by rw [← h1]; simp
  have s2 : u2.heap.size = w2.heap.size + 2 := by rw [← h2]; simp; omega
  have s3 : w3.heap.size = w2.heap.size + 3 := by rw [← h3]; simp; omega
  have s4 : wL.heap.size = wT.heap.size + 1 := by rw [← hL]; simp
  have hT := hb.size
  have b4 : Below wT.heap.size wT wL := by rw [← hL]; exact (Below.refl _ _).alloc (Nat.le_refl _) _
  have b3 : Below w3.heap.size w3 wL := hb.trans (b4.mono hT)
  have c2 : Below u2.heap.size u2 w3 := by rw [← h3]; exact (Below.refl _ _).alloc (Nat.le_refl _) _
  have c1 : Below u1.heap.size u1 w3 := by
    refine Below.trans ?_ (c2.mono (by omega))
    rw [← h2]; exact (Below.refl _ _).alloc (Nat.le_refl _) _
  have c0 : Below w2.heap.size w2 w3 := by
    refine Below.trans ?_ (c1.mono (by omega))
    rw [← h1]; exact (Below.refl _ _).alloc (Nat.le_refl _) _
  have k1 : u1.heap[w2.heap.size]? = some (.cells #[.slice C k cc] 25 (0, 0)) := by rw [← h1]; exact heap_alloc_new w2 _
  have k2 : u2.ownsRow base 40 1 (.slice (some ⟨w2.heap.size + 1, 0, none⟩) 0 0) 0 [] := by
    have := World.ownsRow_made (base := base) (e := 40) (size := 1) u1 #[] 0 (by omega) (by decide) rfl
    rw [s1, h2] at this
    exact this
  have k3 : w3.heap[w2.heap.size + 2]? = some (.cells #[.slice (some ⟨w2.heap.size + 1, 0, none⟩) 0 0] 33 (0, 0)) := by
    have := heap_alloc_new u2 (.cells #[.slice (some ⟨w2.heap.size + 1, 0, none⟩) 0 0] 33)
    rw [h3, s2] at this; exact this
  have k4 : wL.heap[wT.heap.size]? = some (.cells #[.slice L ln lc] 40 (0, 0)) := by
    have := heap_alloc_new wT (.cells #[.slice L ln lc] 40)
    rw [hL] at this; exact this
  have k1' := (c1.block _ (by omega)).trans k1
  have k1'' := (b3.block _ (by omega)).trans k1'
  have k3' := (b3.block _ (by omega)).trans k3
  refine ⟨c0, c0.trans (b3.mono (by omega)), s3, s4, ?_, ?_, ?_, ?_, ?_, own_below (own_below k2 c2) b3⟩
  · rw [cell_of_row _ _ _ _ _ _ k1']; rfl
  · rw [cell_of_row _ _ _ _ _ _ k1'']; rfl
  · rw [cell_of_row _ _ _ _ _ _ k3']; rfl
  · simp [World.frozen?, k3']
  · rw [cell_of_row _ _ _ _ _ _ k4]; rfl
theorem ROps.kept {V W : World} {A : Option Addr} {n : Nat} {xs : List OpV} (h : ROps V A n xs) (hs : V.heap.size ≤ W.heap.size) (hA : ∀ ad, A = some ad → ad.block < V.heap.size → W.heap[ad.block]? = V.heap[ad.block]?) : ROps W A n xs := by
  refine ⟨h.1, h.2.1, fun hn => ?_⟩
  obtain ⟨b, off, hA', hl, hc⟩ := h.2.2 hn
  have hk := hA _ hA' hl
  have kk : ∀ i, W.cell? ⟨b, i, none⟩ = V.cell? ⟨b, i, none⟩ := fun i => World.cell?_of_block (w := V) (a := ⟨b, i, none⟩) hk
  refine ⟨b, off, hA', by omega, fun i x hx => ?_⟩
  obtain ⟨h1, h2, h3⟩ := hc i x hx
  exact ⟨(kk _).trans h1, (kk _).trans h2, (kk _).trans h3⟩
theorem FreshOps.blk {w0 w : World} {A : Option Addr} {n : Nat} {xs : List OpV} (h : FreshOps w0 w A n xs) : ∀ ad, A = some ad → ad.block < w.heap.size := fun ad had => by
  obtain ⟨b, cur, e, _, h2, _⟩ := h.2 ad had
  rw [e]; exact lt_of_block h2
/-- What a push keeps of all else. -/
theorem push_keepK {w : World} {bo q bx : Nat} {K : Nat → Prop} {V V1 W : World} {ov ov' : Value} (hbo : bo < w.heap.size) (hK : ∀ k, K k → k < w.heap.size ∧ k ≠ bo ∧ k ≠ q) (hne : bx ≠ bo ∧ bx ≠ q ∧ bx < w.heap.size) (hq : q < w.heap.size)
    (hg : ∀ g, ov.ownBlock = some g → g = q ∨ w.heap.size + 6 ≤ g) (hb1 : Below V.heap.size V V1) (hgr : V1.grownBy W ov.ownBlock) :
    BdKeepK w.heap.size bx K V (W.setCell ⟨bo, 0, none⟩ ov') := by
  have hs1 := hb1.size
  have hgs := World.grownBy.size hgr
  refine ⟨by simp [World.setCell]; omega, fun k hk hc => ?_⟩
  have hkb : k ≠ bo ∧ ∀ g, g = q ∨ w.heap.size + 6 ≤ g → k ≠ g := by
    rcases hc with h | h | h
    · obtain ⟨h1, h2, h3⟩ := hK k h
      exact ⟨h2, fun g hg e => by omega⟩
    · exact ⟨by omega, fun g hg e => by omega⟩
    · exact ⟨by omega, fun g hg e => by omega⟩
  refine (Below.heap_setCell W _ _ k (by simpa using hkb.1)).trans ((hgr.block k (by omega) ?_).trans (hb1.block k hk))
  intro e
  exact hkb.2 _ (hg k e.symm) rfl

set_option maxRecDepth 100000 in
set_option maxHeartbeats 2000000 in
theorem ViewOrders_any (A : Option Addr) (n c : Nat) (s : List OpV) (w : World) (hx : ROps w A n s) (hnc : n ≤ c) :
    Calls Try.prog 51 #[.slice A n c] w (RetListsA w (orNil (validS s) (vwO s))) := by
  have HX := Lib.hid hx
  clear hx
  cases hv : validS s
  · have HV := Lib.hid hv
    have HVC := Lib.hid (ValidSchedule_any A n c s w HX.out hnc)
    rw [hv] at HVC
    clear hv
    go_enter Try.func51, Try.ntmps51
    go_wp2_with fail
    refine HVC.out.mono ?_
    rintro e w1 ⟨rfl, hb⟩
    go_wp2_with fail
    go_ret
    exact RetListsA.nil hb
  have HVC := Lib.hid (ValidSchedule_any A n c s w HX.out hnc)
  rw [hv] at HVC
  have HVK : Hid (validS (committed s) = true) := validS_committed hv
  have HCC : Hid (∀ W, Below w.heap.size w W → Calls Try.prog 61 #[.slice A n c] W (RetOps W (committed s))) := fun W h => committedOf_any A n c s W (HX.out.below h (Nat.le_refl _))
  have HOO : Hid (orNil true (vwO s) = (permF (txsOf (committed s)) (txsOf (committed s)).length []).filter fun p => viewB (committed s) (serialI (committed s) p)) := rfl
  clear hv
  generalize committed s = KL at *
  have hK16 : KL.length ≤ 16 := ((validS_iff KL).1 HVK.out).1
  obtain ⟨k, hk⟩ : ∃ k, KL.length = k := ⟨_, rfl⟩
  have hL4 : (txsOf KL).length ≤ 4 := txsOf_len _
  have HNC : Hid (n ≤ c) := hnc
  refine (callsIn_wide (n := 9)).1 ?_
  refine callsIn_of_wp_marks Try.func51 rfl trivial ?_ rfl
  simp only [Try.ntmps51, List.size_toArray, List.length_cons, List.length_nil, Nat.reduceAdd, Nat.reduceSub, Array.replicate_succ, Array.replicate_zero, List.push_toArray, List.append_toArray, List.nil_append, List.cons_append]
  gi_wp2_with (refine ⟨trivial, ?_⟩; gi_at_call 22; refine (callsIn_wide.2 HVC.out).mono ?_; rintro e w1 ⟨rfl, hb1⟩)
  gi_wp2_with (refine ⟨trivial, ?_⟩; gi_at_call 61; refine (callsIn_wide.2 (HCC.out w1 hb1)).mono ?_; rintro e w2 ⟨C, cc, rfl, hcc, hfc, hb2'⟩)
  have hb2 := hb1.trans (hb2'.mono hb1.size)
  rw [hk] at hfc hcc
  obtain ⟨w3, h3⟩ : ∃ w3, ((w2.alloc (.cells #[.slice C k cc] 25)).alloc (.cells #[] 40)).alloc (.cells #[.slice (some ⟨w2.heap.size + 1, 0, none⟩) 0 0] 33) = w3 := ⟨_, rfl⟩
  rw [h3]
  have hb23 : Below w2.heap.size w2 w3 := (vw_start w2 w3 w3 _ C none k cc 0 0 0 (by omega) h3 (Below.refl _ _) rfl).1
  have HT := Lib.hid (txsOf_any C k cc KL w3 (hfc.1.below hb23 (Nat.le_refl _)))
  have HFC := Lib.hid hfc
  have HCC2 := Lib.hid hcc
  have hr0 : ∀ t ∈ txsOf KL, 0 ≤ t ∧ t ≤ 3 := txsOf_rng0 KL
  have HNN : Hid (∀ p ∈ permF (txsOf KL) (txsOf KL).length [], p.Nodup) := permF_nodup _ [] (by simp)
  clear hfc hcc hb2' hr0
  generalize txsOf KL = LL at *
  obtain ⟨ln, hln⟩ : ∃ ln, LL.length = ln := ⟨_, rfl⟩
  rw [hln] at HOO hL4 HNN
  gi_wp2_with (refine ⟨trivial, ?_⟩; gi_at_call 97; refine (callsIn_wide.2 HT.out).mono ?_; rintro e wT ⟨L, lc, rfl, hlc, hfl, hbT⟩)
  try rw [hln] at hfl hlc
  gi_wp2_with (refine ⟨trivial, ?_⟩; gi_at_call 96; refine (callsIn_wide.2 (permutations_any L ln lc _)).mono ?_; rintro e w' ⟨rfl, rfl⟩)
  obtain ⟨wL, hwL⟩ : ∃ wL, wT.alloc (.cells #[.slice L ln lc] 40) = wL := ⟨_, rfl⟩
  rw [hwL]
  obtain ⟨_, hbL, hs3, hsL, c3, cC, co, fo, cl, hoL⟩ := vw_start w2 w3 wT wL C L k cc ln lc w.heap.size hb2.size h3 hbT hwL
  have hbTL : Below wT.heap.size wT wL := by rw [← hwL]; exact (Below.refl _ _).alloc (Nat.le_refl _) _
  have hsT := hbT.size
  have hs2 := hb2.size
  have HLB : Hid (∀ ad, L = some ad → w3.heap.size ≤ ad.block ∧ ad.block < wT.heap.size) := fun ad had => by
    obtain ⟨b, cur, e, h1, h2, _⟩ := hfl.2 ad had
    rw [e]; exact ⟨h1, lt_of_block h2⟩
  have HCB : Hid (∀ ad, C = some ad → ad.block < w2.heap.size) := FreshOps.blk HFC.out
  have hCL : ROps wL C k KL := HFC.out.1.below hbL (Nat.le_refl _)
  have HLL := Lib.hid (hfl.1.below hbTL (Nat.le_refl _))
  have HBL := Lib.hid hbL
  clear hwL h3 hfl hbT hbTL HT HFC
  refine wpIn_rangePermK wT.heap.size (fun b => ∃ ad, L = some ad ∧ b = ad.block) ln lc L LL rfl rfl cl HLL.out (fun ad h => ⟨ad, h, rfl⟩) (fun b hb => by obtain ⟨ad, h, rfl⟩ := hb; have := HLB.out ad h; omega) hL4
    (fun acc V => OutInv w wL (w2.heap.size + 2) (w2.heap.size + 1) (acc.filter fun p => viewB KL (serialI KL p)) V ∧ V.cell? ⟨w2.heap.size, 0, none⟩ = some (.slice C k cc) ∧ ROps V C k KL) ?hI ⟨OutInv.start (hb2.trans (hbL.mono hb2.size)) co fo hoL, cC, hCL⟩
    (fun v => { tmps := #[.slice A n c, undef, .slice none 0 0, .pointer (some ⟨w2.heap.size, 0, none⟩), .pointer (some ⟨w2.heap.size + 1 + 1, 0, none⟩), v, .slice A n c, .bool true, .bool false, .slice A n c, .slice C k cc, .slice (some ⟨w2.heap.size + 1, 0, none⟩) 0 0, .slice C k cc, .slice L ln lc, .func (.func 134) #[] #[.pointer (some ⟨wT.heap.size, 0, none⟩)], v, undef, undef, undef, undef, undef, undef, undef, undef, undef, undef, undef, undef], defers := [] }) ?assign ?body ?done
  case hI =>
    rintro s V W ⟨h1, h2, h4⟩ hst
    have h2V := block_lt_of_cell h2
    simp only at h2V
    exact ⟨h1.step (by omega) (by omega) (by omega) hst, (World.cell?_of_block (w := V) (a := ⟨w2.heap.size, 0, none⟩) (hst.block _ h2V (by simp; omega))).trans h2, h4.kept hst.size fun ad had hlt => hst.block _ hlt (by have := HCB.out ad had; omega)⟩
  case assign =>
    intro l m v W KL hK
    gi_wp2
    exact hK
  case done =>
    rintro W ⟨hO, _⟩ hsz hdf
    have hO2 := hO.step (by omega) (by omega) (by omega) (LpStep.put W (l := wL.heap.size) (.deferred none) (by omega))
    obtain ⟨hb, hf, ov, rv, hc, hown, hrows, hapr, hgo⟩ := hO
    obtain ⟨Ao, co', rfl, hco⟩ := own_form2 hown
    have HRET : Hid (RetListsA w ((permF LL ln []).filter fun p => viewB KL (serialI KL p)) (.returned (.slice Ao ((permF LL ln []).filter fun p => viewB KL (serialI KL p)).length ((permF LL ln []).filter fun p => viewB KL (serialI KL p)).length)) (W.putObj wL.heap.size (.deferred none))) := by
      obtain ⟨hb2, _, ov2, rv2, hc2, hown2, hrows2, hap2, _⟩ := hO2
      have ek : (W.putObj wL.heap.size (.deferred none)).cell? ⟨w2.heap.size + 2, 0, none⟩ = W.cell? ⟨w2.heap.size + 2, 0, none⟩ := World.cell?_of_block (w := W) (World.putObj_heap_other (by simp; omega))
      rw [ek, hc] at hc2
      injection hc2 with hc2
      subst hc2
      exact ⟨Ao, _, rv2, rfl, Nat.le_refl _, OuterR.of_own hown2 (Nat.le_refl _) hrows2.one, hrows2.since (by rw [six_size]; omega), hap2, hb2⟩
    have hN : ((permF LL ln []).filter fun p => viewB KL (serialI KL p)).length ≤ 256 := by
      refine Nat.le_trans (List.length_filter_le _ _) (Nat.le_trans (permF_len (by rw [hln]; exact hL4) ln []) ?_)
      exact Nat.pow_le_pow_right (n := 4) (by omega) hL4
    rw [← HOO.out] at HRET hN
    rw [← HOO.out] at hc hco
    generalize orNil true (vwO s) = res at *
    generalize res.length = N at *
    clear hO2 hown hrows hgo hb hapr
    gi_wp2_with (refine ⟨trivial, ?_⟩; gi_at_call 84; refine (callsIn_wide.2 (ClipL_any Ao N co' _ (by omega) hco)).mono ?_; rintro e w' ⟨rfl, rfl⟩)
    rw [hsL] at hdf HRET
    refine ⟨by simp, .inl ⟨_, _, rfl, run_takeDeferred hdf, ?_⟩⟩
    exact ⟨_, results_tmp rfl _ _ _, by exact HRET.out⟩
  case body =>
    rintro l m pre x V W A' c' ⟨hOV, hcV, hkV⟩ hstV hloV hfV hc' hpx
    have hcVl := block_lt_of_cell hcV
    simp only at hcVl
    have hcW : W.cell? ⟨w2.heap.size, 0, none⟩ = some (.slice C k cc) := (World.cell?_of_block (w := V) (a := ⟨w2.heap.size, 0, none⟩) (hstV.block _ hcVl (by simp; omega))).trans hcV
    have hkW : ROps W C k KL := hkV.kept hstV.size fun ad had hlt => hstV.block _ hlt (by have := HCB.out ad had; omega)
    have hlo : wL.heap.size + 6 ≤ W.heap.size := by have := hstV.size; omega
    have hfx : FreshInts (six wL) W A' ln x := hfV.since (by rw [six_size]; omega)
    have hxm : x ∈ permF LL ln [] := List.IsPrefix.subset hpx (by simp)
    have hxl : x.length = ln := by have := permF_length ln [] x hxm; simpa using this
    have hpl : (pre.filter fun p => viewB KL (serialI KL p)).length + 1 ≤ 256 := by
      have h1 := hpx.length_le
      have h2 := permF_len (list := LL) (by rw [hln]; exact hL4) ln []
      have h3 : (4:Nat) ^ ln ≤ 256 := Nat.pow_le_pow_right (n := 4) (by omega) hL4
      have h4 := List.length_filter_le (fun p => viewB KL (serialI KL p)) pre
      simp at h1
      omega
    have HF1 : Hid (viewB KL (serialI KL x) = true → (pre ++ [x]).filter (fun p => viewB KL (serialI KL p)) = pre.filter (fun p => viewB KL (serialI KL p)) ++ [x]) := fun h => by rw [List.filter_append, List.filter_cons, if_pos h, List.filter_nil]
    have HF0 : Hid (viewB KL (serialI KL x) = false → (pre ++ [x]).filter (fun p => viewB KL (serialI KL p)) = pre.filter (fun p => viewB KL (serialI KL p))) := fun h => by rw [List.filter_append, List.filter_cons, if_neg (by rw [h]; simp), List.filter_nil, List.append_nil]
    have hvx : validS (serialI KL x) = true := validS_serial HVK.out (HNN.out x hxm)
    have hSB : ∀ W', Below W.heap.size W W' → Calls Try.prog 98 #[.slice C k cc, .slice A' ln c'] W' (RetOps W' (serialI KL x)) := fun W' h =>
      serialBy_any C A' k cc ln c' KL x W' (hkW.below h (Nat.le_refl _)) (hfV.1.below h (Nat.le_refl _)) (by omega) (by omega)
    obtain ⟨vb, hvb⟩ : ∃ vb, viewB KL (serialI KL x) = vb := ⟨_, rfl⟩
    have hVS : ∀ (W' : World) (S : Option Addr) (sc : Nat), Below W.heap.size W W' → ROps W' S (serialI KL x).length (serialI KL x) → (serialI KL x).length ≤ sc → Calls Try.prog 60 #[.slice C k cc, .slice S (serialI KL x).length sc] W' fun e w' => e = .returned (.bool vb) ∧ Below W'.heap.size W' w' := fun W' S sc h h2 h3 => by
      have := viewSame_any C S k _ cc sc KL (serialI KL x) W' (hkW.below h (Nat.le_refl _)) h2 HCC2.out h3 HVK.out hvx
      rw [hvb] at this; exact this
    rw [hvb] at HF0 HF1
    have HX := Lib.hid hfx
    have HXL := Lib.hid hxl
    have HSB := Lib.hid hSB
    have HVS := Lib.hid hVS
    have HKW := Lib.hid hkW
    have HOV := Lib.hid hOV
    have HSTV := Lib.hid hstV
    have HFV := Lib.hid hfV
    generalize serialI KL x = SX at *
    obtain ⟨sl, hsl⟩ : ∃ sl, SX.length = sl := ⟨_, rfl⟩
    have HSL := Lib.hid hsl
    clear hfx hxl hSB hVS hkW hOV hstV hfV hpx hxm hvx hvb hcV hkV
    gi_upto_region 7 with fail
    gi_cut [20] from 16 (fun r wx => r = .bool vb ∧ Below W.heap.size W wx)
    case first =>
        have cd : W.drew.cell? ⟨w2.heap.size, 0, none⟩ = some (.slice C k cc) := hcW
        refine wpIn_region_any (by kernel_rfl) ?_
        change wpAnyIn _ _ _ _ _ _ _ _ _ (World.drew _)
        refine wpAnyIn_ready (rs := [0, 1, 2]) (by kernel_rfl) (by simp) ?_
        refine AllReadyIn.cons rfl (fun K hK => ?_) ?_
        · skip
          go_simp
          refine hK _ _ ?_
          clear hK K
          refine wpAnyIn_ready (rs := [1, 2]) (by kernel_rfl) (by simp) ?_
          refine AllReadyIn.cons rfl (fun K hK => ?_) ?_
          · skip
            go_simp
            refine hK _ _ ?_
            clear hK K
            refine wpAnyIn_ready (rs := [2]) (by kernel_rfl) (by simp) ?_
            refine AllReadyIn.cons rfl (fun K hK => ?_) ?_
            · skip
              go_simp
              refine hK _ _ ?_
              clear hK K
              refine wpAnyIn_ready (rs := [3]) (by kernel_rfl) (by simp) ?_
              refine AllReadyIn.cons rfl (fun K hK => ?_) ?_
              · skip
                go_simp
                refine ⟨trivial, fun h => (by simp [Fence.wide] at h), ?_⟩
                gi_at_call 98
                refine (CallsIn.inRound l (callsIn_wide.2 (HSB.out _ (Below.refl _ _).drew))).mono ?_
                rintro e w7 ⟨S, sc, rfl, hsc, hfs, hb7'⟩
                have hb7 : Below W.heap.size W w7 := (Below.refl _ _).drew.trans hb7'
                have c7 := (hb7.cell (p := ⟨w2.heap.size, 0, none⟩) (block_lt_of_cell hcW)).trans hcW
                have HVS7 := Lib.hid (HVS.out w7 S sc hb7 hfs.1 hsc)
                rw [HSL.out] at HVS7
                clear hfs hb7' hsc
                go_simp
                refine hK _ _ ?_
                clear hK K
                refine wpAnyIn_ready (rs := [4]) (by kernel_rfl) (by simp) ?_
                refine AllReadyIn.cons rfl (fun K hK => ?_) ?_
                · skip
                  go_simp
                  refine ⟨trivial, fun h => (by simp [Fence.wide] at h), ?_⟩
                  gi_at_call 60
                  refine (CallsIn.inRound l (callsIn_wide.2 HVS7.out)).mono ?_
                  rintro e w8 ⟨rfl, hb8⟩
                  have hbW8 := hb7.trans (hb8.mono hb7.size)
                  go_simp
                  refine hK _ _ ?_
                  clear hK K
                  refine wpAnyIn_done (by kernel_rfl) ?_ _
                  gi_wp2_with fail
                  gi_meet
                  exact ⟨rfl, hbW8⟩
                exact AllReadyIn.nil
              exact AllReadyIn.nil
            exact AllReadyIn.nil
          refine AllReadyIn.cons rfl (fun K hK => ?_) ?_
          · skip
            go_simp
            refine hK _ _ ?_
            clear hK K
            refine wpAnyIn_ready (rs := [1]) (by kernel_rfl) (by simp) ?_
            refine AllReadyIn.cons rfl (fun K hK => ?_) ?_
            · skip
              go_simp
              refine hK _ _ ?_
              clear hK K
              refine wpAnyIn_ready (rs := [3]) (by kernel_rfl) (by simp) ?_
              refine AllReadyIn.cons rfl (fun K hK => ?_) ?_
              · skip
                go_simp
                refine ⟨trivial, fun h => (by simp [Fence.wide] at h), ?_⟩
                gi_at_call 98
                refine (CallsIn.inRound l (callsIn_wide.2 (HSB.out _ (Below.refl _ _).drew))).mono ?_
                rintro e w7 ⟨S, sc, rfl, hsc, hfs, hb7'⟩
                have hb7 : Below W.heap.size W w7 := (Below.refl _ _).drew.trans hb7'
                have c7 := (hb7.cell (p := ⟨w2.heap.size, 0, none⟩) (block_lt_of_cell hcW)).trans hcW
                have HVS7 := Lib.hid (HVS.out w7 S sc hb7 hfs.1 hsc)
                rw [HSL.out] at HVS7
                clear hfs hb7' hsc
                go_simp
                refine hK _ _ ?_
                clear hK K
                refine wpAnyIn_ready (rs := [4]) (by kernel_rfl) (by simp) ?_
                refine AllReadyIn.cons rfl (fun K hK => ?_) ?_
                · skip
                  go_simp
                  refine ⟨trivial, fun h => (by simp [Fence.wide] at h), ?_⟩
                  gi_at_call 60
                  refine (CallsIn.inRound l (callsIn_wide.2 HVS7.out)).mono ?_
                  rintro e w8 ⟨rfl, hb8⟩
                  have hbW8 := hb7.trans (hb8.mono hb7.size)
                  go_simp
                  refine hK _ _ ?_
                  clear hK K
                  refine wpAnyIn_done (by kernel_rfl) ?_ _
                  gi_wp2_with fail
                  gi_meet
                  exact ⟨rfl, hbW8⟩
                exact AllReadyIn.nil
              exact AllReadyIn.nil
            exact AllReadyIn.nil
          exact AllReadyIn.nil
        refine AllReadyIn.cons rfl (fun K hK => ?_) ?_
        · skip
          go_simp
          refine hK _ _ ?_
          clear hK K
          refine wpAnyIn_ready (rs := [0, 2]) (by kernel_rfl) (by simp) ?_
          refine AllReadyIn.cons rfl (fun K hK => ?_) ?_
          · skip
            go_simp
            refine hK _ _ ?_
            clear hK K
            refine wpAnyIn_ready (rs := [2]) (by kernel_rfl) (by simp) ?_
            refine AllReadyIn.cons rfl (fun K hK => ?_) ?_
            · skip
              go_simp
              refine hK _ _ ?_
              clear hK K
              refine wpAnyIn_ready (rs := [3]) (by kernel_rfl) (by simp) ?_
              refine AllReadyIn.cons rfl (fun K hK => ?_) ?_
              · skip
                go_simp
                refine ⟨trivial, fun h => (by simp [Fence.wide] at h), ?_⟩
                gi_at_call 98
                refine (CallsIn.inRound l (callsIn_wide.2 (HSB.out _ (Below.refl _ _).drew))).mono ?_
                rintro e w7 ⟨S, sc, rfl, hsc, hfs, hb7'⟩
                have hb7 : Below W.heap.size W w7 := (Below.refl _ _).drew.trans hb7'
                have c7 := (hb7.cell (p := ⟨w2.heap.size, 0, none⟩) (block_lt_of_cell hcW)).trans hcW
                have HVS7 := Lib.hid (HVS.out w7 S sc hb7 hfs.1 hsc)
                rw [HSL.out] at HVS7
                clear hfs hb7' hsc
                go_simp
                refine hK _ _ ?_
                clear hK K
                refine wpAnyIn_ready (rs := [4]) (by kernel_rfl) (by simp) ?_
                refine AllReadyIn.cons rfl (fun K hK => ?_) ?_
                · skip
                  go_simp
                  refine ⟨trivial, fun h => (by simp [Fence.wide] at h), ?_⟩
                  gi_at_call 60
                  refine (CallsIn.inRound l (callsIn_wide.2 HVS7.out)).mono ?_
                  rintro e w8 ⟨rfl, hb8⟩
                  have hbW8 := hb7.trans (hb8.mono hb7.size)
                  go_simp
                  refine hK _ _ ?_
                  clear hK K
                  refine wpAnyIn_done (by kernel_rfl) ?_ _
                  gi_wp2_with fail
                  gi_meet
                  exact ⟨rfl, hbW8⟩
                exact AllReadyIn.nil
              exact AllReadyIn.nil
            exact AllReadyIn.nil
          refine AllReadyIn.cons rfl (fun K hK => ?_) ?_
          · skip
            go_simp
            refine hK _ _ ?_
            clear hK K
            refine wpAnyIn_ready (rs := [0, 3]) (by kernel_rfl) (by simp) ?_
            refine AllReadyIn.cons rfl (fun K hK => ?_) ?_
            · skip
              go_simp
              refine hK _ _ ?_
              clear hK K
              refine wpAnyIn_ready (rs := [3]) (by kernel_rfl) (by simp) ?_
              refine AllReadyIn.cons rfl (fun K hK => ?_) ?_
              · skip
                go_simp
                refine ⟨trivial, fun h => (by simp [Fence.wide] at h), ?_⟩
                gi_at_call 98
                refine (CallsIn.inRound l (callsIn_wide.2 (HSB.out _ (Below.refl _ _).drew))).mono ?_
                rintro e w7 ⟨S, sc, rfl, hsc, hfs, hb7'⟩
                have hb7 : Below W.heap.size W w7 := (Below.refl _ _).drew.trans hb7'
                have c7 := (hb7.cell (p := ⟨w2.heap.size, 0, none⟩) (block_lt_of_cell hcW)).trans hcW
                have HVS7 := Lib.hid (HVS.out w7 S sc hb7 hfs.1 hsc)
                rw [HSL.out] at HVS7
                clear hfs hb7' hsc
                go_simp
                refine hK _ _ ?_
                clear hK K
                refine wpAnyIn_ready (rs := [4]) (by kernel_rfl) (by simp) ?_
                refine AllReadyIn.cons rfl (fun K hK => ?_) ?_
                · skip
                  go_simp
                  refine ⟨trivial, fun h => (by simp [Fence.wide] at h), ?_⟩
                  gi_at_call 60
                  refine (CallsIn.inRound l (callsIn_wide.2 HVS7.out)).mono ?_
                  rintro e w8 ⟨rfl, hb8⟩
                  have hbW8 := hb7.trans (hb8.mono hb7.size)
                  go_simp
                  refine hK _ _ ?_
                  clear hK K
                  refine wpAnyIn_done (by kernel_rfl) ?_ _
                  gi_wp2_with fail
                  gi_meet
                  exact ⟨rfl, hbW8⟩
                exact AllReadyIn.nil
              exact AllReadyIn.nil
            refine AllReadyIn.cons rfl (fun K hK => ?_) ?_
            · skip
              go_simp
              refine ⟨trivial, fun h => (by simp [Fence.wide] at h), ?_⟩
              gi_at_call 98
              refine (CallsIn.inRound l (callsIn_wide.2 (HSB.out _ (Below.refl _ _).drew))).mono ?_
              rintro e w7 ⟨S, sc, rfl, hsc, hfs, hb7'⟩
              have hb7 : Below W.heap.size W w7 := (Below.refl _ _).drew.trans hb7'
              have c7 := (hb7.cell (p := ⟨w2.heap.size, 0, none⟩) (block_lt_of_cell hcW)).trans hcW
              have HVS7 := Lib.hid (HVS.out w7 S sc hb7 hfs.1 hsc)
              rw [HSL.out] at HVS7
              clear hfs hb7' hsc
              go_simp
              refine hK _ _ ?_
              clear hK K
              refine wpAnyIn_ready (rs := [0]) (by kernel_rfl) (by simp) ?_
              refine AllReadyIn.cons rfl (fun K hK => ?_) ?_
              · skip
                go_simp
                refine hK _ _ ?_
                clear hK K
                refine wpAnyIn_ready (rs := [4]) (by kernel_rfl) (by simp) ?_
                refine AllReadyIn.cons rfl (fun K hK => ?_) ?_
                · skip
                  go_simp
                  refine ⟨trivial, fun h => (by simp [Fence.wide] at h), ?_⟩
                  gi_at_call 60
                  refine (CallsIn.inRound l (callsIn_wide.2 HVS7.out)).mono ?_
                  rintro e w8 ⟨rfl, hb8⟩
                  have hbW8 := hb7.trans (hb8.mono hb7.size)
                  go_simp
                  refine hK _ _ ?_
                  clear hK K
                  refine wpAnyIn_done (by kernel_rfl) ?_ _
                  gi_wp2_with fail
                  gi_meet
                  exact ⟨rfl, hbW8⟩
                exact AllReadyIn.nil
              exact AllReadyIn.nil
            exact AllReadyIn.nil
          exact AllReadyIn.nil
        refine AllReadyIn.cons rfl (fun K hK => ?_) ?_
        · skip
          go_simp
          refine hK _ _ ?_
          clear hK K
          refine wpAnyIn_ready (rs := [0, 1]) (by kernel_rfl) (by simp) ?_
          refine AllReadyIn.cons rfl (fun K hK => ?_) ?_
          · skip
            go_simp
            refine hK _ _ ?_
            clear hK K
            refine wpAnyIn_ready (rs := [1]) (by kernel_rfl) (by simp) ?_
            refine AllReadyIn.cons rfl (fun K hK => ?_) ?_
            · skip
              go_simp
              refine hK _ _ ?_
              clear hK K
              refine wpAnyIn_ready (rs := [3]) (by kernel_rfl) (by simp) ?_
              refine AllReadyIn.cons rfl (fun K hK => ?_) ?_
              · skip
                go_simp
                refine ⟨trivial, fun h => (by simp [Fence.wide] at h), ?_⟩
                gi_at_call 98
                refine (CallsIn.inRound l (callsIn_wide.2 (HSB.out _ (Below.refl _ _).drew))).mono ?_
                rintro e w7 ⟨S, sc, rfl, hsc, hfs, hb7'⟩
                have hb7 : Below W.heap.size W w7 := (Below.refl _ _).drew.trans hb7'
                have c7 := (hb7.cell (p := ⟨w2.heap.size, 0, none⟩) (block_lt_of_cell hcW)).trans hcW
                have HVS7 := Lib.hid (HVS.out w7 S sc hb7 hfs.1 hsc)
                rw [HSL.out] at HVS7
                clear hfs hb7' hsc
                go_simp
                refine hK _ _ ?_
                clear hK K
                refine wpAnyIn_ready (rs := [4]) (by kernel_rfl) (by simp) ?_
                refine AllReadyIn.cons rfl (fun K hK => ?_) ?_
                · skip
                  go_simp
                  refine ⟨trivial, fun h => (by simp [Fence.wide] at h), ?_⟩
                  gi_at_call 60
                  refine (CallsIn.inRound l (callsIn_wide.2 HVS7.out)).mono ?_
                  rintro e w8 ⟨rfl, hb8⟩
                  have hbW8 := hb7.trans (hb8.mono hb7.size)
                  go_simp
                  refine hK _ _ ?_
                  clear hK K
                  refine wpAnyIn_done (by kernel_rfl) ?_ _
                  gi_wp2_with fail
                  gi_meet
                  exact ⟨rfl, hbW8⟩
                exact AllReadyIn.nil
              exact AllReadyIn.nil
            exact AllReadyIn.nil
          refine AllReadyIn.cons rfl (fun K hK => ?_) ?_
          · skip
            go_simp
            refine hK _ _ ?_
            clear hK K
            refine wpAnyIn_ready (rs := [0, 3]) (by kernel_rfl) (by simp) ?_
            refine AllReadyIn.cons rfl (fun K hK => ?_) ?_
            · skip
              go_simp
              refine hK _ _ ?_
              clear hK K
              refine wpAnyIn_ready (rs := [3]) (by kernel_rfl) (by simp) ?_
              refine AllReadyIn.cons rfl (fun K hK => ?_) ?_
              · skip
                go_simp
                refine ⟨trivial, fun h => (by simp [Fence.wide] at h), ?_⟩
                gi_at_call 98
                refine (CallsIn.inRound l (callsIn_wide.2 (HSB.out _ (Below.refl _ _).drew))).mono ?_
                rintro e w7 ⟨S, sc, rfl, hsc, hfs, hb7'⟩
                have hb7 : Below W.heap.size W w7 := (Below.refl _ _).drew.trans hb7'
                have c7 := (hb7.cell (p := ⟨w2.heap.size, 0, none⟩) (block_lt_of_cell hcW)).trans hcW
                have HVS7 := Lib.hid (HVS.out w7 S sc hb7 hfs.1 hsc)
                rw [HSL.out] at HVS7
                clear hfs hb7' hsc
                go_simp
                refine hK _ _ ?_
                clear hK K
                refine wpAnyIn_ready (rs := [4]) (by kernel_rfl) (by simp) ?_
                refine AllReadyIn.cons rfl (fun K hK => ?_) ?_
                · skip
                  go_simp
                  refine ⟨trivial, fun h => (by simp [Fence.wide] at h), ?_⟩
                  gi_at_call 60
                  refine (CallsIn.inRound l (callsIn_wide.2 HVS7.out)).mono ?_
                  rintro e w8 ⟨rfl, hb8⟩
                  have hbW8 := hb7.trans (hb8.mono hb7.size)
                  go_simp
                  refine hK _ _ ?_
                  clear hK K
                  refine wpAnyIn_done (by kernel_rfl) ?_ _
                  gi_wp2_with fail
                  gi_meet
                  exact ⟨rfl, hbW8⟩
                exact AllReadyIn.nil
              exact AllReadyIn.nil
            refine AllReadyIn.cons rfl (fun K hK => ?_) ?_
            · skip
              go_simp
              refine ⟨trivial, fun h => (by simp [Fence.wide] at h), ?_⟩
              gi_at_call 98
              refine (CallsIn.inRound l (callsIn_wide.2 (HSB.out _ (Below.refl _ _).drew))).mono ?_
              rintro e w7 ⟨S, sc, rfl, hsc, hfs, hb7'⟩
              have hb7 : Below W.heap.size W w7 := (Below.refl _ _).drew.trans hb7'
              have c7 := (hb7.cell (p := ⟨w2.heap.size, 0, none⟩) (block_lt_of_cell hcW)).trans hcW
              have HVS7 := Lib.hid (HVS.out w7 S sc hb7 hfs.1 hsc)
              rw [HSL.out] at HVS7
              clear hfs hb7' hsc
              go_simp
              refine hK _ _ ?_
              clear hK K
              refine wpAnyIn_ready (rs := [0]) (by kernel_rfl) (by simp) ?_
              refine AllReadyIn.cons rfl (fun K hK => ?_) ?_
              · skip
                go_simp
                refine hK _ _ ?_
                clear hK K
                refine wpAnyIn_ready (rs := [4]) (by kernel_rfl) (by simp) ?_
                refine AllReadyIn.cons rfl (fun K hK => ?_) ?_
                · skip
                  go_simp
                  refine ⟨trivial, fun h => (by simp [Fence.wide] at h), ?_⟩
                  gi_at_call 60
                  refine (CallsIn.inRound l (callsIn_wide.2 HVS7.out)).mono ?_
                  rintro e w8 ⟨rfl, hb8⟩
                  have hbW8 := hb7.trans (hb8.mono hb7.size)
                  go_simp
                  refine hK _ _ ?_
                  clear hK K
                  refine wpAnyIn_done (by kernel_rfl) ?_ _
                  gi_wp2_with fail
                  gi_meet
                  exact ⟨rfl, hbW8⟩
                exact AllReadyIn.nil
              exact AllReadyIn.nil
            exact AllReadyIn.nil
          exact AllReadyIn.nil
        exact AllReadyIn.nil
    case rest =>
      obtain ⟨rfl, hbx⟩ := hcut
      have hst := HSTV.out.trans (LpStep.of_below (b := wL.heap.size) hbx)
      have HSTX := Lib.hid hst
      have HCX : Hid (wc.cell? ⟨w2.heap.size, 0, none⟩ = some (.slice C k cc)) := (hbx.cell (p := ⟨w2.heap.size, 0, none⟩) (block_lt_of_cell hcW)).trans hcW
      have HKX := Lib.hid (HKW.out.below hbx (Nat.le_refl _))
      have HXX := Lib.hid (FreshInts.lat HX.out hbx)
      have hxs := hbx.size
      have HBX := Lib.hid hbx
      clear hst hbx
      have HOP := Lib.hid (HOV.out.open_ (by omega) (by omega) (by omega) HSTX.out)
      have HO := Lib.hid (HOV.out.step (by omega) (by omega) (by omega) HSTX.out)
      have hlc6 : wL.heap.size + 6 ≤ wc.heap.size := by omega
      cases vb
      · have HF := Lib.hid (HF0.out rfl)
        clear HF0 HF1
        gi_wp2
        refine ⟨BdKeepK.of_below HBX.out, ?_, HCX.out, HKX.out⟩
        show OutInv _ _ _ _ ((pre ++ [x]).filter fun p => viewB KL (serialI KL p)) _
        rw [HF.out]
        exact HO.out
      · have HF := Lib.hid (HF1.out rfl)
        clear HF0 HF1 HO
        generalize hfp : (fun p => viewB KL (serialI KL p)) = fp at *
        have HFP := Lib.hid hfp
        clear hfp
        obtain ⟨hb, hf, ov, rv, hc, hown, hrows, hapr, hgo, hblk⟩ := HOP.out
        obtain ⟨Ao, co', rfl, hco⟩ := own_form2 hown
        have HAPR : Hid (ApartR (rv ++ [.slice A' ln ln])) := hapr.snoc fun i a m d b hAb hi => by
          obtain ⟨b', cur, e1, e2, _, _⟩ := HFV.out.2 b hAb
          have := hblk i a m d hi
          rw [e1]; simp only; omega
        have hcA : (wc.alloc (.cells #[.slice A' ln ln] 40)).drew.cell? ⟨w2.heap.size + 2, 0, none⟩ = some (.slice Ao (pre.filter fp).length co') := (((Below.refl _ wc).alloc (Nat.le_refl _) (.cells #[.slice A' ln ln] 40)).drew.cell (p := ⟨w2.heap.size + 2, 0, none⟩) (block_lt_of_cell hc)).trans hc
        have hbA : Below wc.heap.size wc (wc.alloc (.cells #[.slice A' ln ln] 40)).drew := ((Below.refl _ wc).alloc (Nat.le_refl _) _).drew
        have HBA := Lib.hid hbA
        have HOWN := Lib.hid hown
        have HOWA := Lib.hid (own_below hown hbA)
        have HROWS := Lib.hid hrows
        have HGO := Lib.hid hgo
        have hs2 : w.heap.size ≤ wc.heap.size := hb.size
        have HB := Lib.hid hb
        have HHF := Lib.hid hf
        have HHC := Lib.hid hc
        have HLK : Hid (∀ b, (∃ ad, L = some ad ∧ b = ad.block) → b < wL.heap.size ∧ b ≠ w2.heap.size + 2 ∧ b ≠ w2.heap.size + 1) := fun b hb => by
          obtain ⟨ad, h, rfl⟩ := hb
          have := HLB.out ad h
          omega
        generalize hN : (pre.filter fp).length = N at *
        have HN := Lib.hid hN
        clear hapr hblk HFV HOP hown hrows hgo hbA hb hN
        gi_wp2
        refine wpIn_region_any (by kernel_rfl) ?_
        change wpAnyIn _ _ _ _ _ _ _ _ _ (World.drew _)
        refine wpAnyIn_ready (rs := [0, 1]) (by kernel_rfl) (by simp) ?_
        refine AllReadyIn.cons rfl (fun K hK => ?_) ?_
        · skip
          go_simp
          refine hK _ _ ?_
          clear hK K
          refine wpAnyIn_ready (rs := [1]) (by kernel_rfl) (by simp) ?_
          refine AllReadyIn.cons rfl (fun K hK => ?_) ?_
          · skip
            go_simp
            refine hK _ _ ?_
            clear hK K
            refine wpAnyIn_ready (rs := [2]) (by kernel_rfl) (by simp) ?_
            refine AllReadyIn.cons rfl (fun K hK => ?_) ?_
            · skip
              go_simp
              refine ⟨trivial, fun h => (by simp [Fence.wide] at h), ?_⟩
              gi_at_call 99
              refine (CallsIn.inRound l (callsIn_wide.2 (ClipO_any A' ln c' _ (by omega) hc'))).mono ?_
              rintro e w' ⟨rfl, rfl⟩
              go_simp
              refine hK _ _ ?_
              clear hK K
              refine wpAnyIn_ready (rs := [3]) (by kernel_rfl) (by simp) ?_
              refine AllReadyIn.cons rfl (fun K hK => ?_) ?_
              · skip
                go_simp
                refine hK _ _ ?_
                clear hK K
                refine wpAnyIn_ready (rs := [4]) (by kernel_rfl) (by simp) ?_
                refine AllReadyIn.cons rfl (fun K hK => ?_) ?_
                · skip
                  refine stepIn_rows (.tmp 21) (.tmp 24) HOWA.out (by have := HBA.out.size; omega) (Src.one wc.drew (.slice A' ln ln) 40 rfl) (by omega) rfl rfl rfl rfl ?_
                  intro v1 w1 hown1 hg1 hat1
                  obtain ⟨A1, c1, rfl, hc1⟩ := own_form2 hown1
                  have hne : (Value.slice Ao N co').ownBlock ≠ some (w2.heap.size + 2) := fun e => by have := HGO.out _ e; omega
                  have c2w := (cell_grown hg1 (p := ⟨w2.heap.size + 2, 0, none⟩) (block_lt_of_cell hcA) (fun e => hne e.symm)).trans hcA
                  have f2w : w1.frozen? ⟨w2.heap.size + 2, 0, none⟩ = false := (frozen_grown hg1 (p := ⟨w2.heap.size + 2, 0, none⟩) (block_lt_of_cell hcA) (fun e => hne e.symm)).trans ((HBA.out.frozen (p := ⟨w2.heap.size + 2, 0, none⟩) (block_lt_of_cell hc)).trans hf)
                  have hkp := push_keepK (w := wL) (bo := w2.heap.size + 2) (q := w2.heap.size + 1) (bx := wT.heap.size) (ov' := .slice A1 (N + 1) c1) (by omega) HLK.out ⟨by omega, by omega, by omega⟩ (by omega) HGO.out HBA.out hg1
                  have hpu := OutInv.push (w := wL) (bo := w2.heap.size + 2) (q := w2.heap.size + 1) (xss := pre.filter fp) (by omega) (by omega) (by omega) ⟨by omega, by omega⟩ HB.out HHF.out HHC.out (by rw [HN.out]; exact HOWN.out) HROWS.out HAPR.out HGO.out HXX.out HXL.out HBA.out hlc6 (by rw [HN.out]; exact hown1) hg1 hat1
                  have hpc := push_cell (w := wL) (bo := w2.heap.size + 2) (q := w2.heap.size + 1) (p := w2.heap.size) (ov' := .slice A1 (N + 1) c1) HGO.out (by omega) (by omega) (by omega) HBA.out hg1 HCX.out
                  have hpk : ROps (w1.setCell ⟨w2.heap.size + 2, 0, none⟩ (.slice A1 (N + 1) c1)) C k KL := HKX.out.kept (by have := HBA.out.size; have := World.grownBy.size hg1; simp [World.setCell]; omega) fun ad had hlt => by
                    have h1 := HCB.out ad had
                    refine (Below.heap_setCell w1 _ _ ad.block (by simp; omega)).trans ((hg1.block ad.block (by have := HBA.out.size; omega) ?_).trans (HBA.out.block _ hlt))
                    intro e
                    have := HGO.out _ e.symm
                    omega
                  have HFIN := Lib.hid (And.intro hkp (And.intro hpu (And.intro hpc hpk)))
                  clear hkp hpu hpc hpk hown1 hg1 hat1
                  go_simp
                  refine hK _ _ ?_
                  clear hK K
                  refine wpAnyIn_ready (rs := [5]) (by kernel_rfl) (by simp) ?_
                  refine AllReadyIn.cons rfl (fun K hK => ?_) ?_
                  · skip
                    go_simp
                    refine hK _ _ ?_
                    clear hK K
                    refine wpAnyIn_done (by kernel_rfl) ?_ _
                    have hgoal : permPostK wL.heap.size wT.heap.size (fun b => ∃ ad, L = some ad ∧ b = ad.block) (fun acc V => OutInv w wL (w2.heap.size + 2) (w2.heap.size + 1) (acc.filter fp) V ∧ V.cell? ⟨w2.heap.size, 0, none⟩ = some (.slice C k cc) ∧ ROps V C k KL) (pre ++ [x]) W .normal { tmps := #[], defers := [] } (w1.setCell ⟨w2.heap.size + 2, 0, none⟩ (.slice A1 (N + 1) c1)) := by
                      refine ⟨(BdKeepK.of_below HBX.out).trans HFIN.out.1, ?_, HFIN.out.2.2⟩
                      show OutInv _ _ _ _ ((pre ++ [x]).filter fp) _
                      rw [HF.out]
                      exact HFIN.out.2.1
                    gi_wp2
                    have hfp := HFP.out
                    subst hfp
                    exact hgoal
                  exact AllReadyIn.nil
                exact AllReadyIn.nil
              exact AllReadyIn.nil
            exact AllReadyIn.nil
          exact AllReadyIn.nil
        refine AllReadyIn.cons rfl (fun K hK => ?_) ?_
        · skip
          go_simp
          refine hK _ _ ?_
          clear hK K
          refine wpAnyIn_ready (rs := [0, 2]) (by kernel_rfl) (by simp) ?_
          refine AllReadyIn.cons rfl (fun K hK => ?_) ?_
          · skip
            go_simp
            refine hK _ _ ?_
            clear hK K
            refine wpAnyIn_ready (rs := [2]) (by kernel_rfl) (by simp) ?_
            refine AllReadyIn.cons rfl (fun K hK => ?_) ?_
            · skip
              go_simp
              refine ⟨trivial, fun h => (by simp [Fence.wide] at h), ?_⟩
              gi_at_call 99
              refine (CallsIn.inRound l (callsIn_wide.2 (ClipO_any A' ln c' _ (by omega) hc'))).mono ?_
              rintro e w' ⟨rfl, rfl⟩
              go_simp
              refine hK _ _ ?_
              clear hK K
              refine wpAnyIn_ready (rs := [3]) (by kernel_rfl) (by simp) ?_
              refine AllReadyIn.cons rfl (fun K hK => ?_) ?_
              · skip
                go_simp
                refine hK _ _ ?_
                clear hK K
                refine wpAnyIn_ready (rs := [4]) (by kernel_rfl) (by simp) ?_
                refine AllReadyIn.cons rfl (fun K hK => ?_) ?_
                · skip
                  refine stepIn_rows (.tmp 21) (.tmp 24) HOWA.out (by have := HBA.out.size; omega) (Src.one wc.drew (.slice A' ln ln) 40 rfl) (by omega) rfl rfl rfl rfl ?_
                  intro v1 w1 hown1 hg1 hat1
                  obtain ⟨A1, c1, rfl, hc1⟩ := own_form2 hown1
                  have hne : (Value.slice Ao N co').ownBlock ≠ some (w2.heap.size + 2) := fun e => by have := HGO.out _ e; omega
                  have c2w := (cell_grown hg1 (p := ⟨w2.heap.size + 2, 0, none⟩) (block_lt_of_cell hcA) (fun e => hne e.symm)).trans hcA
                  have f2w : w1.frozen? ⟨w2.heap.size + 2, 0, none⟩ = false := (frozen_grown hg1 (p := ⟨w2.heap.size + 2, 0, none⟩) (block_lt_of_cell hcA) (fun e => hne e.symm)).trans ((HBA.out.frozen (p := ⟨w2.heap.size + 2, 0, none⟩) (block_lt_of_cell hc)).trans hf)
                  have hkp := push_keepK (w := wL) (bo := w2.heap.size + 2) (q := w2.heap.size + 1) (bx := wT.heap.size) (ov' := .slice A1 (N + 1) c1) (by omega) HLK.out ⟨by omega, by omega, by omega⟩ (by omega) HGO.out HBA.out hg1
                  have hpu := OutInv.push (w := wL) (bo := w2.heap.size + 2) (q := w2.heap.size + 1) (xss := pre.filter fp) (by omega) (by omega) (by omega) ⟨by omega, by omega⟩ HB.out HHF.out HHC.out (by rw [HN.out]; exact HOWN.out) HROWS.out HAPR.out HGO.out HXX.out HXL.out HBA.out hlc6 (by rw [HN.out]; exact hown1) hg1 hat1
                  have hpc := push_cell (w := wL) (bo := w2.heap.size + 2) (q := w2.heap.size + 1) (p := w2.heap.size) (ov' := .slice A1 (N + 1) c1) HGO.out (by omega) (by omega) (by omega) HBA.out hg1 HCX.out
                  have hpk : ROps (w1.setCell ⟨w2.heap.size + 2, 0, none⟩ (.slice A1 (N + 1) c1)) C k KL := HKX.out.kept (by have := HBA.out.size; have := World.grownBy.size hg1; simp [World.setCell]; omega) fun ad had hlt => by
                    have h1 := HCB.out ad had
                    refine (Below.heap_setCell w1 _ _ ad.block (by simp; omega)).trans ((hg1.block ad.block (by have := HBA.out.size; omega) ?_).trans (HBA.out.block _ hlt))
                    intro e
                    have := HGO.out _ e.symm
                    omega
                  have HFIN := Lib.hid (And.intro hkp (And.intro hpu (And.intro hpc hpk)))
                  clear hkp hpu hpc hpk hown1 hg1 hat1
                  go_simp
                  refine hK _ _ ?_
                  clear hK K
                  refine wpAnyIn_ready (rs := [5]) (by kernel_rfl) (by simp) ?_
                  refine AllReadyIn.cons rfl (fun K hK => ?_) ?_
                  · skip
                    go_simp
                    refine hK _ _ ?_
                    clear hK K
                    refine wpAnyIn_done (by kernel_rfl) ?_ _
                    have hgoal : permPostK wL.heap.size wT.heap.size (fun b => ∃ ad, L = some ad ∧ b = ad.block) (fun acc V => OutInv w wL (w2.heap.size + 2) (w2.heap.size + 1) (acc.filter fp) V ∧ V.cell? ⟨w2.heap.size, 0, none⟩ = some (.slice C k cc) ∧ ROps V C k KL) (pre ++ [x]) W .normal { tmps := #[], defers := [] } (w1.setCell ⟨w2.heap.size + 2, 0, none⟩ (.slice A1 (N + 1) c1)) := by
                      refine ⟨(BdKeepK.of_below HBX.out).trans HFIN.out.1, ?_, HFIN.out.2.2⟩
                      show OutInv _ _ _ _ ((pre ++ [x]).filter fp) _
                      rw [HF.out]
                      exact HFIN.out.2.1
                    gi_wp2
                    have hfp := HFP.out
                    subst hfp
                    exact hgoal
                  exact AllReadyIn.nil
                exact AllReadyIn.nil
              exact AllReadyIn.nil
            exact AllReadyIn.nil
          refine AllReadyIn.cons rfl (fun K hK => ?_) ?_
          · skip
            go_simp
            refine ⟨trivial, fun h => (by simp [Fence.wide] at h), ?_⟩
            gi_at_call 99
            refine (CallsIn.inRound l (callsIn_wide.2 (ClipO_any A' ln c' _ (by omega) hc'))).mono ?_
            rintro e w' ⟨rfl, rfl⟩
            go_simp
            refine hK _ _ ?_
            clear hK K
            refine wpAnyIn_ready (rs := [0, 3]) (by kernel_rfl) (by simp) ?_
            refine AllReadyIn.cons rfl (fun K hK => ?_) ?_
            · skip
              go_simp
              refine hK _ _ ?_
              clear hK K
              refine wpAnyIn_ready (rs := [3]) (by kernel_rfl) (by simp) ?_
              refine AllReadyIn.cons rfl (fun K hK => ?_) ?_
              · skip
                go_simp
                refine hK _ _ ?_
                clear hK K
                refine wpAnyIn_ready (rs := [4]) (by kernel_rfl) (by simp) ?_
                refine AllReadyIn.cons rfl (fun K hK => ?_) ?_
                · skip
                  refine stepIn_rows (.tmp 21) (.tmp 24) HOWA.out (by have := HBA.out.size; omega) (Src.one wc.drew (.slice A' ln ln) 40 rfl) (by omega) rfl rfl rfl rfl ?_
                  intro v1 w1 hown1 hg1 hat1
                  obtain ⟨A1, c1, rfl, hc1⟩ := own_form2 hown1
                  have hne : (Value.slice Ao N co').ownBlock ≠ some (w2.heap.size + 2) := fun e => by have := HGO.out _ e; omega
                  have c2w := (cell_grown hg1 (p := ⟨w2.heap.size + 2, 0, none⟩) (block_lt_of_cell hcA) (fun e => hne e.symm)).trans hcA
                  have f2w : w1.frozen? ⟨w2.heap.size + 2, 0, none⟩ = false := (frozen_grown hg1 (p := ⟨w2.heap.size + 2, 0, none⟩) (block_lt_of_cell hcA) (fun e => hne e.symm)).trans ((HBA.out.frozen (p := ⟨w2.heap.size + 2, 0, none⟩) (block_lt_of_cell hc)).trans hf)
                  have hkp := push_keepK (w := wL) (bo := w2.heap.size + 2) (q := w2.heap.size + 1) (bx := wT.heap.size) (ov' := .slice A1 (N + 1) c1) (by omega) HLK.out ⟨by omega, by omega, by omega⟩ (by omega) HGO.out HBA.out hg1
                  have hpu := OutInv.push (w := wL) (bo := w2.heap.size + 2) (q := w2.heap.size + 1) (xss := pre.filter fp) (by omega) (by omega) (by omega) ⟨by omega, by omega⟩ HB.out HHF.out HHC.out (by rw [HN.out]; exact HOWN.out) HROWS.out HAPR.out HGO.out HXX.out HXL.out HBA.out hlc6 (by rw [HN.out]; exact hown1) hg1 hat1
                  have hpc := push_cell (w := wL) (bo := w2.heap.size + 2) (q := w2.heap.size + 1) (p := w2.heap.size) (ov' := .slice A1 (N + 1) c1) HGO.out (by omega) (by omega) (by omega) HBA.out hg1 HCX.out
                  have hpk : ROps (w1.setCell ⟨w2.heap.size + 2, 0, none⟩ (.slice A1 (N + 1) c1)) C k KL := HKX.out.kept (by have := HBA.out.size; have := World.grownBy.size hg1; simp [World.setCell]; omega) fun ad had hlt => by
                    have h1 := HCB.out ad had
                    refine (Below.heap_setCell w1 _ _ ad.block (by simp; omega)).trans ((hg1.block ad.block (by have := HBA.out.size; omega) ?_).trans (HBA.out.block _ hlt))
                    intro e
                    have := HGO.out _ e.symm
                    omega
                  have HFIN := Lib.hid (And.intro hkp (And.intro hpu (And.intro hpc hpk)))
                  clear hkp hpu hpc hpk hown1 hg1 hat1
                  go_simp
                  refine hK _ _ ?_
                  clear hK K
                  refine wpAnyIn_ready (rs := [5]) (by kernel_rfl) (by simp) ?_
                  refine AllReadyIn.cons rfl (fun K hK => ?_) ?_
                  · skip
                    go_simp
                    refine hK _ _ ?_
                    clear hK K
                    refine wpAnyIn_done (by kernel_rfl) ?_ _
                    have hgoal : permPostK wL.heap.size wT.heap.size (fun b => ∃ ad, L = some ad ∧ b = ad.block) (fun acc V => OutInv w wL (w2.heap.size + 2) (w2.heap.size + 1) (acc.filter fp) V ∧ V.cell? ⟨w2.heap.size, 0, none⟩ = some (.slice C k cc) ∧ ROps V C k KL) (pre ++ [x]) W .normal { tmps := #[], defers := [] } (w1.setCell ⟨w2.heap.size + 2, 0, none⟩ (.slice A1 (N + 1) c1)) := by
                      refine ⟨(BdKeepK.of_below HBX.out).trans HFIN.out.1, ?_, HFIN.out.2.2⟩
                      show OutInv _ _ _ _ ((pre ++ [x]).filter fp) _
                      rw [HF.out]
                      exact HFIN.out.2.1
                    gi_wp2
                    have hfp := HFP.out
                    subst hfp
                    exact hgoal
                  exact AllReadyIn.nil
                exact AllReadyIn.nil
              exact AllReadyIn.nil
            refine AllReadyIn.cons rfl (fun K hK => ?_) ?_
            · skip
              go_simp
              refine hK _ _ ?_
              clear hK K
              refine wpAnyIn_ready (rs := [0]) (by kernel_rfl) (by simp) ?_
              refine AllReadyIn.cons rfl (fun K hK => ?_) ?_
              · skip
                go_simp
                refine hK _ _ ?_
                clear hK K
                refine wpAnyIn_ready (rs := [4]) (by kernel_rfl) (by simp) ?_
                refine AllReadyIn.cons rfl (fun K hK => ?_) ?_
                · skip
                  refine stepIn_rows (.tmp 21) (.tmp 24) HOWA.out (by have := HBA.out.size; omega) (Src.one wc.drew (.slice A' ln ln) 40 rfl) (by omega) rfl rfl rfl rfl ?_
                  intro v1 w1 hown1 hg1 hat1
                  obtain ⟨A1, c1, rfl, hc1⟩ := own_form2 hown1
                  have hne : (Value.slice Ao N co').ownBlock ≠ some (w2.heap.size + 2) := fun e => by have := HGO.out _ e; omega
                  have c2w := (cell_grown hg1 (p := ⟨w2.heap.size + 2, 0, none⟩) (block_lt_of_cell hcA) (fun e => hne e.symm)).trans hcA
                  have f2w : w1.frozen? ⟨w2.heap.size + 2, 0, none⟩ = false := (frozen_grown hg1 (p := ⟨w2.heap.size + 2, 0, none⟩) (block_lt_of_cell hcA) (fun e => hne e.symm)).trans ((HBA.out.frozen (p := ⟨w2.heap.size + 2, 0, none⟩) (block_lt_of_cell hc)).trans hf)
                  have hkp := push_keepK (w := wL) (bo := w2.heap.size + 2) (q := w2.heap.size + 1) (bx := wT.heap.size) (ov' := .slice A1 (N + 1) c1) (by omega) HLK.out ⟨by omega, by omega, by omega⟩ (by omega) HGO.out HBA.out hg1
                  have hpu := OutInv.push (w := wL) (bo := w2.heap.size + 2) (q := w2.heap.size + 1) (xss := pre.filter fp) (by omega) (by omega) (by omega) ⟨by omega, by omega⟩ HB.out HHF.out HHC.out (by rw [HN.out]; exact HOWN.out) HROWS.out HAPR.out HGO.out HXX.out HXL.out HBA.out hlc6 (by rw [HN.out]; exact hown1) hg1 hat1
                  have hpc := push_cell (w := wL) (bo := w2.heap.size + 2) (q := w2.heap.size + 1) (p := w2.heap.size) (ov' := .slice A1 (N + 1) c1) HGO.out (by omega) (by omega) (by omega) HBA.out hg1 HCX.out
                  have hpk : ROps (w1.setCell ⟨w2.heap.size + 2, 0, none⟩ (.slice A1 (N + 1) c1)) C k KL := HKX.out.kept (by have := HBA.out.size; have := World.grownBy.size hg1; simp [World.setCell]; omega) fun ad had hlt => by
                    have h1 := HCB.out ad had
                    refine (Below.heap_setCell w1 _ _ ad.block (by simp; omega)).trans ((hg1.block ad.block (by have := HBA.out.size; omega) ?_).trans (HBA.out.block _ hlt))
                    intro e
                    have := HGO.out _ e.symm
                    omega
                  have HFIN := Lib.hid (And.intro hkp (And.intro hpu (And.intro hpc hpk)))
                  clear hkp hpu hpc hpk hown1 hg1 hat1
                  go_simp
                  refine hK _ _ ?_
                  clear hK K
                  refine wpAnyIn_ready (rs := [5]) (by kernel_rfl) (by simp) ?_
                  refine AllReadyIn.cons rfl (fun K hK => ?_) ?_
                  · skip
                    go_simp
                    refine hK _ _ ?_
                    clear hK K
                    refine wpAnyIn_done (by kernel_rfl) ?_ _
                    have hgoal : permPostK wL.heap.size wT.heap.size (fun b => ∃ ad, L = some ad ∧ b = ad.block) (fun acc V => OutInv w wL (w2.heap.size + 2) (w2.heap.size + 1) (acc.filter fp) V ∧ V.cell? ⟨w2.heap.size, 0, none⟩ = some (.slice C k cc) ∧ ROps V C k KL) (pre ++ [x]) W .normal { tmps := #[], defers := [] } (w1.setCell ⟨w2.heap.size + 2, 0, none⟩ (.slice A1 (N + 1) c1)) := by
                      refine ⟨(BdKeepK.of_below HBX.out).trans HFIN.out.1, ?_, HFIN.out.2.2⟩
                      show OutInv _ _ _ _ ((pre ++ [x]).filter fp) _
                      rw [HF.out]
                      exact HFIN.out.2.1
                    gi_wp2
                    have hfp := HFP.out
                    subst hfp
                    exact hgoal
                  exact AllReadyIn.nil
                exact AllReadyIn.nil
              exact AllReadyIn.nil
            exact AllReadyIn.nil
          exact AllReadyIn.nil
        exact AllReadyIn.nil
end Go.Proofs.Ytkbclcgdkbhgdaa
