/-
  The texts that the proof rests on, joined: part 4.
-/
import Derived.Sort.CutIn
import Derived.Deep.Cut
import Derived.Test.YtkbclcgdkbhgdaaGreatPkVwo3
namespace Go.Proofs.YtkbclcgdkbhgdaaGreat
open Go.RowKit Go.BigFrame Go.Shelf
set_option linter.unusedVariables false
attribute [local go_sem] Oper.semAt_some

/-- What lies where the loop over the orders begins. -/
theorem vw_start (w2 w3 wT wL : World) (C L : Option Addr) (k cc ln lc base : Nat) (hbase : base ≤ w2.heap.size)
    (h3 : ((w2.alloc (.cells #[.slice C k cc] 23)).alloc (.cells #[] 32)).alloc (.cells #[.slice (some ⟨w2.heap.size + 1, 0, none⟩) 0 0] 25) = w3) (hb : Below w3.heap.size w3 wT) (hL : wT.alloc (.cells #[.slice L ln lc] 32) = wL) :
    Below w2.heap.size w2 w3 ∧ Below w2.heap.size w2 wL ∧ w3.heap.size = w2.heap.size + 3 ∧ wL.heap.size = wT.heap.size + 1 ∧ w3.cell? ⟨w2.heap.size, 0, none⟩ = some (.slice C k cc) ∧ wL.cell? ⟨w2.heap.size, 0, none⟩ = some (.slice C k cc) ∧ wL.cell? ⟨w2.heap.size + 2, 0, none⟩ = some (.slice (some ⟨w2.heap.size + 1, 0, none⟩) 0 0) ∧ wL.frozen? ⟨w2.heap.size + 2, 0, none⟩ = false ∧
      wL.cell? ⟨wT.heap.size, 0, none⟩ = some (.slice L ln lc) ∧ wL.ownsRow base 32 1 (.slice (some ⟨w2.heap.size + 1, 0, none⟩) 0 0) 0 [] := by
  obtain ⟨u1, h1⟩ : ∃ u1, w2.alloc (.cells #[.slice C k cc] 23) = u1 := ⟨_, rfl⟩
  rw [h1] at h3
  obtain ⟨u2, h2⟩ : ∃ u2, u1.alloc (.cells #[] 32) = u2 := ⟨_, rfl⟩
  rw [h2] at h3
  have s1 : u1.heap.size = w2.heap.size + 1 := by rw [← h1]; simp
  have s2 : u2.heap.size = w2.heap.size + 2 := by rw [← h2]; simp; omega
  have s3 : w3.heap.size = w2.heap.size + 3 := by rw [← h3]; simp; omega
  have s4 : wL.heap.size = wT.heap.size + 1 := by rw [← hL]; simp
  have hT := hb.size
  have b4 : Below wT.heap.size wT wL := by rw [← hL]; exact (Below.refl _ _).alloc (Nat.le_refl _) _
  have b3 : Below w3.heap.size w3 wL := hb.trans (b4.mono hT)
  have c2 : Below u2.heap.size u2 w3 := by rw [← h3]; exact (Below.refl _ _).alloc (Nat.le_refl _) _
  have c1 : Below u1.heap.size u1 w3 := by
    refine Below.trans ?_ (c2.mono (by omega))
    rw [← h2]; exact (Below.refl _ _).alloc (Nat.le_refl _) _
  have c0 : Below w2.heap.size w2 w3 := by
    refine Below.trans ?_ (c1.mono (by omega))
    rw [← h1]; exact (Below.refl _ _).alloc (Nat.le_refl _) _
  have k1 : u1.heap[w2.heap.size]? = some (.cells #[.slice C k cc] 23 (0, 0)) := by rw [← h1]; exact heap_alloc_new w2 _
  have k2 : u2.ownsRow base 32 1 (.slice (some ⟨w2.heap.size + 1, 0, none⟩) 0 0) 0 [] := by
    have := World.ownsRow_made (base := base) (e := 32) (size := 1) u1 #[] 0 (by omega) (by decide) rfl
    rw [s1, h2] at this
    exact this
  have k3 : w3.heap[w2.heap.size + 2]? = some (.cells #[.slice (some ⟨w2.heap.size + 1, 0, none⟩) 0 0] 25 (0, 0)) := by
    have := heap_alloc_new u2 (.cells #[.slice (some ⟨w2.heap.size + 1, 0, none⟩) 0 0] 25)
    rw [h3, s2] at this; exact this
  have k4 : wL.heap[wT.heap.size]? = some (.cells #[.slice L ln lc] 32 (0, 0)) := by
    have := heap_alloc_new wT (.cells #[.slice L ln lc] 32)
    rw [hL] at this; exact this
  have k1' := (c1.block _ (by omega)).trans k1
  have k1'' := (b3.block _ (by omega)).trans k1'
  have k3' := (b3.block _ (by omega)).trans k3
  refine ⟨c0, c0.trans (b3.mono (by omega)), s3, s4, ?_, ?_, ?_, ?_, ?_, own_below (own_below k2 c2) b3⟩
  · rw [cell_of_row _ _ _ _ _ _ k1']; rfl
  · rw [cell_of_row _ _ _ _ _ _ k1'']; rfl
  · rw [cell_of_row _ _ _ _ _ _ k3']; rfl
  · simp [World.frozen?, k3']
  · rw [cell_of_row _ _ _ _ _ _ k4]; rfl
theorem ROps.kept {V W : World} {A : Option Addr} {n : Nat} {xs : List OpV} (h : ROps V A n xs) (hs : V.heap.size ≤ W.heap.size) (hA : ∀ ad, A = some ad → ad.block < V.heap.size → W.heap[ad.block]? = V.heap[ad.block]?) : ROps W A n xs := by
  refine ⟨h.1, h.2.1, fun hn => ?_⟩
  obtain ⟨b, off, hA', hl, hc⟩ := h.2.2 hn
  have hk := hA _ hA' hl
  have kk : ∀ i, W.cell? ⟨b, i, none⟩ = V.cell? ⟨b, i, none⟩ := fun i => World.cell?_of_block (w := V) (a := ⟨b, i, none⟩) hk
  refine ⟨b, off, hA', by omega, fun i x hx => ?_⟩
  obtain ⟨h1, h2, h3⟩ := hc i x hx
  exact ⟨(kk _).trans h1, (kk _).trans h2, (kk _).trans h3⟩
theorem FreshOps.blk {w0 w : World} {A : Option Addr} {n : Nat} {xs : List OpV} (h : FreshOps w0 w A n xs) : ∀ ad, A = some ad → ad.block < w.heap.size := fun ad had => by
  obtain ⟨b, cur, e, _, h2, _⟩ := h.2 ad had
  rw [e]; exact lt_of_block h2
/-- What a push keeps of all else. -/
theorem push_keepK {w : World} {bo q bx : Nat} {K : Nat → Prop} {V V1 W : World} {ov ov' : Value} (hbo : bo < w.heap.size) (hK : ∀ k, K k → k < w.heap.size ∧ k ≠ bo ∧ k ≠ q) (hne : bx ≠ bo ∧ bx ≠ q ∧ bx < w.heap.size) (hq : q < w.heap.size)
    (hg : ∀ g, ov.ownBlock = some g → g = q ∨ w.heap.size + 6 ≤ g) (hb1 : Below V.heap.size V V1) (hgr : V1.grownBy W ov.ownBlock) :
    BdKeepK w.heap.size bx K V (W.setCell ⟨bo, 0, none⟩ ov') := by
  have hs1 := hb1.size
  have hgs := World.grownBy.size hgr
  refine ⟨by simp [World.setCell]; omega, fun k hk hc => ?_⟩
  have hkb : k ≠ bo ∧ ∀ g, g = q ∨ w.heap.size + 6 ≤ g → k ≠ g := by
    rcases hc with h | h | h
    · obtain ⟨h1, h2, h3⟩ := hK k h
      exact ⟨h2, fun g hg e => by omega⟩
    · exact ⟨by omega, fun g hg e => by omega⟩
    · exact ⟨by omega, fun g hg e => by omega⟩
  refine (Below.heap_setCell W _ _ k (by simpa using hkb.1)).trans ((hgr.block k (by omega) ?_).trans (hb1.block k hk))
  intro e
  exact hkb.2 _ (hg k e.symm) rfl

set_option maxRecDepth 100000 in
set_option maxHeartbeats 2000000 in
theorem ViewOrders_any (A : Option Addr) (n c : Nat) (s : List OpV) (w : World) (hx : ROps w A n s) (hnc : n ≤ c) :
    Calls Tryz.prog 5 #[.slice A n c] w (RetListsA w (orNil (validS s) (vwO s))) := by
  have HX := Lib.hid hx
  clear hx
  cases hv : validS s
  · have HV := Lib.hid hv
    have HVC := Lib.hid (ValidSchedule_any A n c s w HX.out hnc)
    rw [hv] at HVC
    clear hv
    go_enter Tryz.func5, Tryz.ntmps5
    go_wp2_with fail
    refine HVC.out.mono ?_
    rintro e w1 ⟨rfl, hb⟩
    go_wp2_with fail
    go_ret
    exact RetListsA.nil hb
  have HVC := Lib.hid (ValidSchedule_any A n c s w HX.out hnc)
  rw [hv] at HVC
  have HVK : Hid (validS (committed s) = true) := validS_committed hv
  have HCC : Hid (∀ W, Below w.heap.size w W → Calls Tryz.prog 16 #[.slice A n c] W (RetOps W (committed s))) := fun W h => committedOf_any A n c s W (HX.out.below h (Nat.le_refl _))
  have HOO : Hid (orNil true (vwO s) = (permF (txsOf (committed s)) (txsOf (committed s)).length []).filter fun p => viewB (committed s) (serialI (committed s) p)) := rfl
  clear hv
  generalize committed s = KL at *
  have hK16 : KL.length ≤ 16 := ((validS_iff KL).1 HVK.out).1
  obtain ⟨k, hk⟩ : ∃ k, KL.length = k := ⟨_, rfl⟩
  have hL4 : (txsOf KL).length ≤ 4 := txsOf_len _
  have HNC : Hid (n ≤ c) := hnc
  refine (callsIn_wide (n := 9)).1 ?_
  refine callsIn_of_wp_marks Tryz.func5 rfl trivial ?_ rfl
  simp only [Tryz.ntmps5, List.size_toArray, List.length_cons, List.length_nil, Nat.reduceAdd, Nat.reduceSub, Array.replicate_succ, Array.replicate_zero, List.push_toArray, List.append_toArray, List.nil_append, List.cons_append]
  gi_wp2_with (refine ⟨trivial, ?_⟩; gi_at_call 8; refine (callsIn_wide.2 HVC.out).mono ?_; rintro e w1 ⟨rfl, hb1⟩)
  gi_wp2_with (refine ⟨trivial, ?_⟩; gi_at_call 16; refine (callsIn_wide.2 (HCC.out w1 hb1)).mono ?_; rintro e w2 ⟨C, cc, rfl, hcc, hfc, hb2'⟩)
  have hb2 := hb1.trans (hb2'.mono hb1.size)
  rw [hk] at hfc hcc
  obtain ⟨w3, h3⟩ : ∃ w3, ((w2.alloc (.cells #[.slice C k cc] 23)).alloc (.cells #[] 32)).alloc (.cells #[.slice (some ⟨w2.heap.size + 1, 0, none⟩) 0 0] 25) = w3 := ⟨_, rfl⟩
  rw [h3]
  have hb23 : Below w2.heap.size w2 w3 := (vw_start w2 w3 w3 _ C none k cc 0 0 0 (by omega) h3 (Below.refl _ _) rfl).1
  have HT := Lib.hid (txsOf_any C k cc KL w3 (hfc.1.below hb23 (Nat.le_refl _)))
  have HFC := Lib.hid hfc
  have HCC2 := Lib.hid hcc
  have hr0 : ∀ t ∈ txsOf KL, 0 ≤ t ∧ t ≤ 3 := txsOf_rng0 KL
  have HNN : Hid (∀ p ∈ permF (txsOf KL) (txsOf KL).length [], p.Nodup) := permF_nodup _ [] (by simp)
  clear hfc hcc hb2' hr0
  generalize txsOf KL = LL at *
  obtain ⟨ln, hln⟩ : ∃ ln, LL.length = ln := ⟨_, rfl⟩
  rw [hln] at HOO hL4 HNN
  gi_wp2_with (refine ⟨trivial, ?_⟩; gi_at_call 18; refine (callsIn_wide.2 HT.out).mono ?_; rintro e wT ⟨L, lc, rfl, hlc, hfl, hbT⟩)
  try rw [hln] at hfl hlc
  gi_wp2_with (refine ⟨trivial, ?_⟩; gi_at_call 17; refine (callsIn_wide.2 (permutations_any L ln lc _)).mono ?_; rintro e w' ⟨rfl, rfl⟩)
  obtain ⟨wL, hwL⟩ : ∃ wL, wT.alloc (.cells #[.slice L ln lc] 32) = wL := ⟨_, rfl⟩
  rw [hwL]
  obtain ⟨_, hbL, hs3, hsL, c3, cC, co, fo, cl, hoL⟩ := vw_start w2 w3 wT wL C L k cc ln lc w.heap.size hb2.size h3 hbT hwL
  have hbTL : Below wT.heap.size wT wL := by rw [← hwL]; exact (Below.refl _ _).alloc (Nat.le_refl _) _
  have hsT := hbT.size
  have hs2 := hb2.size
  have HLB : Hid (∀ ad, L = some ad → w3.heap.size ≤ ad.block ∧ ad.block < wT.heap.size) := fun ad had => by
    obtain ⟨b, cur, e, h1, h2, _⟩ := hfl.2 ad had
    rw [e]; exact ⟨h1, lt_of_block h2⟩
  have HCB : Hid (∀ ad, C = some ad → ad.block < w2.heap.size) := FreshOps.blk HFC.out
  have hCL : ROps wL C k KL := HFC.out.1.below hbL (Nat.le_refl _)
  have HLL := Lib.hid (hfl.1.below hbTL (Nat.le_refl _))
  have HBL := Lib.hid hbL
  clear hwL h3 hfl hbT hbTL HT HFC
  refine wpIn_rangePermK wT.heap.size (fun b => ∃ ad, L = some ad ∧ b = ad.block) ln lc L LL rfl rfl cl HLL.out (fun ad h => ⟨ad, h, rfl⟩) (fun b hb => by obtain ⟨ad, h, rfl⟩ := hb; have := HLB.out ad h; omega) hL4
    (fun acc V => OutInv w wL (w2.heap.size + 2) (w2.heap.size + 1) (acc.filter fun p => viewB KL (serialI KL p)) V ∧ V.cell? ⟨w2.heap.size, 0, none⟩ = some (.slice C k cc) ∧ ROps V C k KL) ?hI ⟨OutInv.start (hb2.trans (hbL.mono hb2.size)) co fo hoL, cC, hCL⟩
    (fun v => { tmps := #[.slice A n c, undef, .slice none 0 0, .pointer (some ⟨w2.heap.size, 0, none⟩), .pointer (some ⟨w2.heap.size + 1 + 1, 0, none⟩), v, .slice A n c, .bool true, .bool false, .slice A n c, .slice C k cc, .slice (some ⟨w2.heap.size + 1, 0, none⟩) 0 0, .slice C k cc, .slice L ln lc, .func (.func 41) #[] #[.pointer (some ⟨wT.heap.size, 0, none⟩)], v, undef, undef, undef, undef, undef, undef, undef, undef, undef, undef, undef, undef], defers := [] }) ?assign ?body ?done
  case hI =>
    rintro s V W ⟨h1, h2, h4⟩ hst
    have h2V := block_lt_of_cell h2
    simp only at h2V
    exact ⟨h1.step (by omega) (by omega) (by omega) hst, (World.cell?_of_block (w := V) (a := ⟨w2.heap.size, 0, none⟩) (hst.block _ h2V (by simp; omega))).trans h2, h4.kept hst.size fun ad had hlt => hst.block _ hlt (by have := HCB.out ad had; omega)⟩
  case assign =>
    intro l m v W KL hK
    gi_wp2
    exact hK
  case done =>
    rintro W ⟨hO, _⟩ hsz hdf
    have hO2 := hO.step (by omega) (by omega) (by omega) (LpStep.put W (l := wL.heap.size) (.deferred none) (by omega))
    obtain ⟨hb, hf, ov, rv, hc, hown, hrows, hapr, hgo⟩ := hO
    obtain ⟨Ao, co', rfl, hco⟩ := own_form2 hown
    have HRET : Hid (RetListsA w ((permF LL ln []).filter fun p => viewB KL (serialI KL p)) (.returned (.slice Ao ((permF LL ln []).filter fun p => viewB KL (serialI KL p)).length ((permF LL ln []).filter fun p => viewB KL (serialI KL p)).length)) (W.putObj wL.heap.size (.deferred none))) := by
      obtain ⟨hb2, _, ov2, rv2, hc2, hown2, hrows2, hap2, _⟩ := hO2
      have ek : (W.putObj wL.heap.size (.deferred none)).cell? ⟨w2.heap.size + 2, 0, none⟩ = W.cell? ⟨w2.heap.size + 2, 0, none⟩ := World.cell?_of_block (w := W) (World.putObj_heap_other (by simp; omega))
      rw [ek, hc] at hc2
      injection hc2 with hc2
      subst hc2
      exact ⟨Ao, _, rv2, rfl, Nat.le_refl _, OuterR.of_own hown2 (Nat.le_refl _) hrows2.one, hrows2.since (by rw [six_size]; omega), hap2, hb2⟩
    have hN : ((permF LL ln []).filter fun p => viewB KL (serialI KL p)).length ≤ 256 := by
      refine Nat.le_trans (List.length_filter_le _ _) (Nat.le_trans (permF_len (by rw [hln]; exact hL4) ln []) ?_)
      exact Nat.pow_le_pow_right (n := 4) (by omega) hL4
    rw [← HOO.out] at HRET hN
    rw [← HOO.out] at hc hco
    generalize orNil true (vwO s) = res at *
    generalize res.length = N at *
    clear hO2 hown hrows hgo hb hapr
    gi_wp2_with (refine ⟨trivial, ?_⟩; gi_at_call 22; refine (callsIn_wide.2 (ClipL_any Ao N co' _ (by omega) hco)).mono ?_; rintro e w' ⟨rfl, rfl⟩)
    rw [hsL] at hdf HRET
    refine ⟨by simp, .inl ⟨_, _, rfl, run_takeDeferred hdf, ?_⟩⟩
    exact ⟨_, results_tmp rfl _ _ _, by exact HRET.out⟩
  case body =>
    rintro l m pre x V W A' c' ⟨hOV, hcV, hkV⟩ hstV hloV hfV hc' hpx
    have hcVl := block_lt_of_cell hcV
    simp only at hcVl
    have hcW : W.cell? ⟨w2.heap.size, 0, none⟩ = some (.slice C k cc) := (World.cell?_of_block (w := V) (a := ⟨w2.heap.size, 0, none⟩) (hstV.block _ hcVl (by simp; omega))).trans hcV
    have hkW : ROps W C k KL := hkV.kept hstV.size fun ad had hlt => hstV.block _ hlt (by have := HCB.out ad had; omega)
    have hlo : wL.heap.size + 6 ≤ W.heap.size := by have := hstV.size; omega
    have hfx : FreshInts (six wL) W A' ln x := hfV.since (by rw [six_size]; omega)
    have hxm : x ∈ permF LL ln [] := List.IsPrefix.subset hpx (by simp)
    have hxl : x.length = ln := by have := permF_length ln [] x hxm; simpa using this
    have hpl : (pre.filter fun p => viewB KL (serialI KL p)).length + 1 ≤ 256 := by
      have h1 := hpx.length_le
      have h2 := permF_len (list := LL) (by rw [hln]; exact hL4) ln []
      have h3 : (4:Nat) ^ ln ≤ 256 := Nat.pow_le_pow_right (n := 4) (by omega) hL4
      have h4 := List.length_filter_le (fun p => viewB KL (serialI KL p)) pre
      simp at h1
      omega
    have HF1 : Hid (viewB KL (serialI KL x) = true → (pre ++ [x]).filter (fun p => viewB KL (serialI KL p)) = pre.filter (fun p => viewB KL (serialI KL p)) ++ [x]) := fun h => by rw [List.filter_append, List.filter_cons, if_pos h, List.filter_nil]
    have HF0 : Hid (viewB KL (serialI KL x) = false → (pre ++ [x]).filter (fun p => viewB KL (serialI KL p)) = pre.filter (fun p => viewB KL (serialI KL p))) := fun h => by rw [List.filter_append, List.filter_cons, if_neg (by rw [h]; simp), List.filter_nil, List.append_nil]
    have hvx : validS (serialI KL x) = true := validS_serial HVK.out (HNN.out x hxm)
    have hSB : ∀ W', Below W.heap.size W W' → Calls Tryz.prog 20 #[.slice C k cc, .slice A' ln c'] W' (RetOps W' (serialI KL x)) := fun W' h =>
      serialBy_any C A' k cc ln c' KL x W' (hkW.below h (Nat.le_refl _)) (hfV.1.below h (Nat.le_refl _)) (by omega) (by omega)
    obtain ⟨vb, hvb⟩ : ∃ vb, viewB KL (serialI KL x) = vb := ⟨_, rfl⟩
    have hVS : ∀ (W' : World) (S : Option Addr) (sc : Nat), Below W.heap.size W W' → ROps W' S (serialI KL x).length (serialI KL x) → (serialI KL x).length ≤ sc → Calls Tryz.prog 19 #[.slice C k cc, .slice S (serialI KL x).length sc] W' fun e w' => e = .returned (.bool vb) ∧ Below W'.heap.size W' w' := fun W' S sc h h2 h3 => by
      have := viewSame_any C S k _ cc sc KL (serialI KL x) W' (hkW.below h (Nat.le_refl _)) h2 HCC2.out h3 HVK.out hvx
      rw [hvb] at this; exact this
    rw [hvb] at HF0 HF1
    have HX := Lib.hid hfx
    have HXL := Lib.hid hxl
    have HSB := Lib.hid hSB
    have HVS := Lib.hid hVS
    have HKW := Lib.hid hkW
    have HOV := Lib.hid hOV
    have HSTV := Lib.hid hstV
    have HFV := Lib.hid hfV
    generalize serialI KL x = SX at *
    obtain ⟨sl, hsl⟩ : ∃ sl, SX.length = sl := ⟨_, rfl⟩
    have HSL := Lib.hid hsl
    clear hfx hxl hSB hVS hkW hOV hstV hfV hpx hxm hvx hvb hcV hkV
    gi_upto_region 7 with fail
    gi_cut [20] from 16 (fun r wx => r = .bool vb ∧ Below W.heap.size W wx)
    case first =>
        have cd : W.drew.cell? ⟨w2.heap.size, 0, none⟩ = some (.slice C k cc) := hcW
        refine wpIn_region_any (by kernel_rfl) ?_
        change wpAnyIn _ _ _ _ _ _ _ _ _ (World.drew _)
        refine wpAnyIn_ready (rs := [0, 1, 2]) (by kernel_rfl) (by simp) ?_
        refine AllReadyIn.cons rfl (fun K hK => ?_) ?_
        · skip
          go_simp
          refine hK _ _ ?_
          clear hK K
          refine wpAnyIn_ready (rs := [1, 2]) (by kernel_rfl) (by simp) ?_
          refine AllReadyIn.cons rfl (fun K hK => ?_) ?_
          · skip
            go_simp
            refine hK _ _ ?_
            clear hK K
            refine wpAnyIn_ready (rs := [2]) (by kernel_rfl) (by simp) ?_
            refine AllReadyIn.cons rfl (fun K hK => ?_) ?_
            · skip
              go_simp
              refine hK _ _ ?_
              clear hK K
              refine wpAnyIn_ready (rs := [3]) (by kernel_rfl) (by simp) ?_
              refine AllReadyIn.cons rfl (fun K hK => ?_) ?_
              · skip
                go_simp
                refine ⟨trivial, fun h => (by simp [Fence.wide] at h), ?_⟩
                gi_at_call 20
                refine (CallsIn.inRound l (callsIn_wide.2 (HSB.out _ (Below.refl _ _).drew))).mono ?_
                rintro e w7 ⟨S, sc, rfl, hsc, hfs, hb7'⟩
                have hb7 : Below W.heap.size W w7 := (Below.refl _ _).drew.trans hb7'
                have c7 := (hb7.cell (p := ⟨w2.heap.size, 0, none⟩) (block_lt_of_cell hcW)).trans hcW
                have HVS7 := Lib.hid (HVS.out w7 S sc hb7 hfs.1 hsc)
                rw [HSL.out] at HVS7
                clear hfs hb7' hsc
                go_simp
                refine hK _ _ ?_
                clear hK K
                refine wpAnyIn_ready (rs := [4]) (by kernel_rfl) (by simp) ?_
                refine AllReadyIn.cons rfl (fun K hK => ?_) ?_
                · skip
                  go_simp
                  refine ⟨trivial, fun h => (by simp [Fence.wide] at h), ?_⟩
                  gi_at_call 19
                  refine (CallsIn.inRound l (callsIn_wide.2 HVS7.out)).mono ?_
                  rintro e w8 ⟨rfl, hb8⟩
                  have hbW8 := hb7.trans (hb8.mono hb7.size)
                  go_simp
                  refine hK _ _ ?_
                  clear hK K
                  refine wpAnyIn_done (by kernel_rfl) ?_ _
                  gi_wp2_with fail
                  gi_meet
                  exact ⟨rfl, hbW8⟩
                exact AllReadyIn.nil
              exact AllReadyIn.nil
            exact AllReadyIn.nil
          refine AllReadyIn.cons rfl (fun K hK => ?_) ?_
          · skip
            go_simp
            refine hK _ _ ?_
            clear hK K
            refine wpAnyIn_ready (rs := [1]) (by kernel_rfl) (by simp) ?_
            refine AllReadyIn.cons rfl (fun K hK => ?_) ?_
            · skip
              go_simp
              refine hK _ _ ?_
              clear hK K
              refine wpAnyIn_ready (rs := [3]) (by kernel_rfl) (by simp) ?_
              refine AllReadyIn.cons rfl (fun K hK => ?_) ?_
              · skip
                go_simp
                refine ⟨trivial, fun h => (by simp [Fence.wide] at h), ?_⟩
                gi_at_call 20
                refine (CallsIn.inRound l (callsIn_wide.2 (HSB.out _ (Below.refl _ _).drew))).mono ?_
                rintro e w7 ⟨S, sc, rfl, hsc, hfs, hb7'⟩
                have hb7 : Below W.heap.size W w7 := (Below.refl _ _).drew.trans hb7'
                have c7 := (hb7.cell (p := ⟨w2.heap.size, 0, none⟩) (block_lt_of_cell hcW)).trans hcW
                have HVS7 := Lib.hid (HVS.out w7 S sc hb7 hfs.1 hsc)
                rw [HSL.out] at HVS7
                clear hfs hb7' hsc
                go_simp
                refine hK _ _ ?_
                clear hK K
                refine wpAnyIn_ready (rs := [4]) (by kernel_rfl) (by simp) ?_
                refine AllReadyIn.cons rfl (fun K hK => ?_) ?_
                · skip
                  go_simp
                  refine ⟨trivial, fun h => (by simp [Fence.wide] at h), ?_⟩
                  gi_at_call 19
                  refine (CallsIn.inRound l (callsIn_wide.2 HVS7.out)).mono ?_
                  rintro e w8 ⟨rfl, hb8⟩
                  have hbW8 := hb7.trans (hb8.mono hb7.size)
                  go_simp
                  refine hK _ _ ?_
                  clear hK K
                  refine wpAnyIn_done (by kernel_rfl) ?_ _
                  gi_wp2_with fail
                  gi_meet
                  exact ⟨rfl, hbW8⟩
                exact AllReadyIn.nil
              exact AllReadyIn.nil
            exact AllReadyIn.nil
          exact AllReadyIn.nil
        refine AllReadyIn.cons rfl (fun K hK => ?_) ?_
        · skip
          go_simp
          refine hK _ _ ?_
          clear hK K
          refine wpAnyIn_ready (rs := [0, 2]) (by kernel_rfl) (by simp) ?_
          refine AllReadyIn.cons rfl (fun K hK => ?_) ?_
          · skip
            go_simp
            refine hK _ _ ?_
            clear hK K
            refine wpAnyIn_ready (rs := [2]) (by kernel_rfl) (by simp) ?_
            refine AllReadyIn.cons rfl (fun K hK => ?_) ?_
            · skip
              go_simp
              refine hK _ _ ?_
              clear hK K
              refine wpAnyIn_ready (rs := [3]) (by kernel_rfl) (by simp) ?_
              refine AllReadyIn.cons rfl (fun K hK => ?_) ?_
              · skip
                go_simp
                refine ⟨trivial, fun h => (by simp [Fence.wide] at h), ?_⟩
                gi_at_call 20
                refine (CallsIn.inRound l (callsIn_wide.2 (HSB.out _ (Below.refl _ _).drew))).mono ?_
                rintro e w7 ⟨S, sc, rfl, hsc, hfs, hb7'⟩
                have hb7 : Below W.heap.size W w7 := (Below.refl _ _).drew.trans hb7'
                have c7 := (hb7.cell (p := ⟨w2.heap.size, 0, none⟩) (block_lt_of_cell hcW)).trans hcW
                have HVS7 := Lib.hid (HVS.out w7 S sc hb7 hfs.1 hsc)
                rw [HSL.out] at HVS7
                clear hfs hb7' hsc
                go_simp
                refine hK _ _ ?_
                clear hK K
                refine wpAnyIn_ready (rs := [4]) (by kernel_rfl) (by simp) ?_
                refine AllReadyIn.cons rfl (fun K hK => ?_) ?_
                · skip
                  go_simp
                  refine ⟨trivial, fun h => (by simp [Fence.wide] at h), ?_⟩
                  gi_at_call 19
                  refine (CallsIn.inRound l (callsIn_wide.2 HVS7.out)).mono ?_
                  rintro e w8 ⟨rfl, hb8⟩
                  have hbW8 := hb7.trans (hb8.mono hb7.size)
                  go_simp
                  refine hK _ _ ?_
                  clear hK K
                  refine wpAnyIn_done (by kernel_rfl) ?_ _
                  gi_wp2_with fail
                  gi_meet
                  exact ⟨rfl, hbW8⟩
                exact AllReadyIn.nil
              exact AllReadyIn.nil
            exact AllReadyIn.nil
          refine AllReadyIn.cons rfl (fun K hK => ?_) ?_
          · skip
            go_simp
            refine hK _ _ ?_
            clear hK K
            refine wpAnyIn_ready (rs := [0, 3]) (by kernel_rfl) (by simp) ?_
            refine AllReadyIn.cons rfl (fun K hK => ?_) ?_
            · skip
              go_simp
              refine hK _ _ ?_
              clear hK K
              refine wpAnyIn_ready (rs := [3]) (by kernel_rfl) (by simp) ?_
              refine AllReadyIn.cons rfl (fun K hK => ?_) ?_
              · skip
                go_simp
                refine ⟨trivial, fun h => (by simp [Fence.wide] at h), ?_⟩
                gi_at_call 20
                refine (CallsIn.inRound l (callsIn_wide.2 (HSB.out _ (Below.refl _ _).drew))).mono ?_
                rintro e w7 ⟨S, sc, rfl, hsc, hfs, hb7'⟩
                have hb7 : Below W.heap.size W w7 := (Below.refl _ _).drew.trans hb7'
                have c7 := (hb7.cell (p := ⟨w2.heap.size, 0, none⟩) (block_lt_of_cell hcW)).trans hcW
                have HVS7 := Lib.hid (HVS.out w7 S sc hb7 hfs.1 hsc)
                rw [HSL.out] at HVS7
                clear hfs hb7' hsc
                go_simp
                refine hK _ _ ?_
                clear hK K
                refine wpAnyIn_ready (rs := [4]) (by kernel_rfl) (by simp) ?_
                refine AllReadyIn.cons rfl (fun K hK => ?_) ?_
                · skip
                  go_simp
                  refine ⟨trivial, fun h => (by simp [Fence.wide] at h), ?_⟩
                  gi_at_call 19
                  refine (CallsIn.inRound l (callsIn_wide.2 HVS7.out)).mono ?_
                  rintro e w8 ⟨rfl, hb8⟩
                  have hbW8 := hb7.trans (hb8.mono hb7.size)
                  go_simp
                  refine hK _ _ ?_
                  clear hK K
                  refine wpAnyIn_done (by kernel_rfl) ?_ _
                  gi_wp2_with fail
                  gi_meet
                  exact ⟨rfl, hbW8⟩
                exact AllReadyIn.nil
              exact AllReadyIn.nil
            refine AllReadyIn.cons rfl (fun K hK => ?_) ?_
            · skip
              go_simp
              refine ⟨trivial, fun h => (by simp [Fence.wide] at h), ?_⟩
              gi_at_call 20
              refine (CallsIn.inRound l (callsIn_wide.2 (HSB.out _ (Below.refl _ _).drew))).mono ?_
              rintro e w7 ⟨S, sc, rfl, hsc, hfs, hb7'⟩
              have hb7 : Below W.heap.size W w7 := (Below.refl _ _).drew.trans hb7'
              have c7 := (hb7.cell (p := ⟨w2.heap.size, 0, none⟩) (block_lt_of_cell hcW)).trans hcW
              have HVS7 := Lib.hid (HVS.out w7 S sc hb7 hfs.1 hsc)
              rw [HSL.out] at HVS7
              clear hfs hb7' hsc
              go_simp
              refine hK _ _ ?_
              clear hK K
              refine wpAnyIn_ready (rs := [0]) (by kernel_rfl) (by simp) ?_
              refine AllReadyIn.cons rfl (fun K hK => ?_) ?_
              · skip
                go_simp
                refine hK _ _ ?_
                clear hK K
                refine wpAnyIn_ready (rs := [4]) (by kernel_rfl) (by simp) ?_
                refine AllReadyIn.cons rfl (fun K hK => ?_) ?_
                · skip
                  go_simp
                  refine ⟨trivial, fun h => (by simp [Fence.wide] at h), ?_⟩
                  gi_at_call 19
                  refine (CallsIn.inRound l (callsIn_wide.2 HVS7.out)).mono ?_
                  rintro e w8 ⟨rfl, hb8⟩
                  have hbW8 := hb7.trans (hb8.mono hb7.size)
                  go_simp
                  refine hK _ _ ?_
                  clear hK K
                  refine wpAnyIn_done (by kernel_rfl) ?_ _
                  gi_wp2_with fail
                  gi_meet
                  exact ⟨rfl, hbW8⟩
                exact AllReadyIn.nil
              exact AllReadyIn.nil
            exact AllReadyIn.nil
          exact AllReadyIn.nil
        refine AllReadyIn.cons rfl (fun K hK => ?_) ?_
        · skip
          go_simp
          refine hK _ _ ?_
          clear hK K
          refine wpAnyIn_ready (rs := [0, 1]) (by kernel_rfl) (by simp) ?_
          refine AllReadyIn.cons rfl (fun K hK => ?_) ?_
          · skip
            go_simp
            refine hK _ _ ?_
            clear hK K
            refine wpAnyIn_ready (rs := [1]) (by kernel_rfl) (by simp) ?_
            refine AllReadyIn.cons rfl (fun K hK => ?_) ?_
            · skip
              go_simp
              refine hK _ _ ?_
              clear hK K
              refine wpAnyIn_ready (rs := [3]) (by kernel_rfl) (by simp) ?_
              refine AllReadyIn.cons rfl (fun K hK => ?_) ?_
              · skip
                go_simp
                refine ⟨trivial, fun h => (by simp [Fence.wide] at h), ?_⟩
                gi_at_call 20
                refine (CallsIn.inRound l (callsIn_wide.2 (HSB.out _ (Below.refl _ _).drew))).mono ?_
                rintro e w7 ⟨S, sc, rfl, hsc, hfs, hb7'⟩
                have hb7 : Below W.heap.size W w7 := (Below.refl _ _).drew.trans hb7'
                have c7 := (hb7.cell (p := ⟨w2.heap.size, 0, none⟩) (block_lt_of_cell hcW)).trans hcW
                have HVS7 := Lib.hid (HVS.out w7 S sc hb7 hfs.1 hsc)
                rw [HSL.out] at HVS7
                clear hfs hb7' hsc
                go_simp
                refine hK _ _ ?_
                clear hK K
                refine wpAnyIn_ready (rs := [4]) (by kernel_rfl) (by simp) ?_
                refine AllReadyIn.cons rfl (fun K hK => ?_) ?_
                · skip
                  go_simp
                  refine ⟨trivial, fun h => (by simp [Fence.wide] at h), ?_⟩
                  gi_at_call 19
                  refine (CallsIn.inRound l (callsIn_wide.2 HVS7.out)).mono ?_
                  rintro e w8 ⟨rfl, hb8⟩
                  have hbW8 := hb7.trans (hb8.mono hb7.size)
                  go_simp
                  refine hK _ _ ?_
                  clear hK K
                  refine wpAnyIn_done (by kernel_rfl) ?_ _
                  gi_wp2_with fail
                  gi_meet
                  exact ⟨rfl, hbW8⟩
                exact AllReadyIn.nil
              exact AllReadyIn.nil
            exact AllReadyIn.nil
          refine AllReadyIn.cons rfl (fun K hK => ?_) ?_
          · skip
            go_simp
            refine hK _ _ ?_
            clear hK K
            refine wpAnyIn_ready (rs := [0, 3]) (by kernel_rfl) (by simp) ?_
            refine AllReadyIn.cons rfl (fun K hK => ?_) ?_
            · skip
              go_simp
              refine hK _ _ ?_
              clear hK K
              refine wpAnyIn_ready (rs := [3]) (by kernel_rfl) (by simp) ?_
              refine AllReadyIn.cons rfl (fun K hK => ?_) ?_
              · skip
                go_simp
                refine ⟨trivial, fun h => (by simp [Fence.wide] at h), ?_⟩
                gi_at_call 20
                refine (CallsIn.inRound l (callsIn_wide.2 (HSB.out _ (Below.refl _ _).drew))).mono ?_
                rintro e w7 ⟨S, sc, rfl, hsc, hfs, hb7'⟩
                have hb7 : Below W.heap.size W w7 := (Below.refl _ _).drew.trans hb7'
                have c7 := (hb7.cell (p := ⟨w2.heap.size, 0, none⟩) (block_lt_of_cell hcW)).trans hcW
                have HVS7 := Lib.hid (HVS.out w7 S sc hb7 hfs.1 hsc)
                rw [HSL.out] at HVS7
                clear hfs hb7' hsc
                go_simp
                refine hK _ _ ?_
                clear hK K
                refine wpAnyIn_ready (rs := [4]) (by kernel_rfl) (by simp) ?_
                refine AllReadyIn.cons rfl (fun K hK => ?_) ?_
                · skip
                  go_simp
                  refine ⟨trivial, fun h => (by simp [Fence.wide] at h), ?_⟩
                  gi_at_call 19
                  refine (CallsIn.inRound l (callsIn_wide.2 HVS7.out)).mono ?_
                  rintro e w8 ⟨rfl, hb8⟩
                  have hbW8 := hb7.trans (hb8.mono hb7.size)
                  go_simp
                  refine hK _ _ ?_
                  clear hK K
                  refine wpAnyIn_done (by kernel_rfl) ?_ _
                  gi_wp2_with fail
                  gi_meet
                  exact ⟨rfl, hbW8⟩
                exact AllReadyIn.nil
              exact AllReadyIn.nil
            refine AllReadyIn.cons rfl (fun K hK => ?_) ?_
            · skip
              go_simp
              refine ⟨trivial, fun h => (by simp [Fence.wide] at h), ?_⟩
              gi_at_call 20
              refine (CallsIn.inRound l (callsIn_wide.2 (HSB.out _ (Below.refl _ _).drew))).mono ?_
              rintro e w7 ⟨S, sc, rfl, hsc, hfs, hb7'⟩
              have hb7 : Below W.heap.size W w7 := (Below.refl _ _).drew.trans hb7'
              have c7 := (hb7.cell (p := ⟨w2.heap.size, 0, none⟩) (block_lt_of_cell hcW)).trans hcW
              have HVS7 := Lib.hid (HVS.out w7 S sc hb7 hfs.1 hsc)
              rw [HSL.out] at HVS7
              clear hfs hb7' hsc
              go_simp
              refine hK _ _ ?_
              clear hK K
              refine wpAnyIn_ready (rs := [0]) (by kernel_rfl) (by simp) ?_
              refine AllReadyIn.cons rfl (fun K hK => ?_) ?_
              · skip
                go_simp
                refine hK _ _ ?_
                clear hK K
                refine wpAnyIn_ready (rs := [4]) (by kernel_rfl) (by simp) ?_
                refine AllReadyIn.cons rfl (fun K hK => ?_) ?_
                · skip
                  go_simp
                  refine ⟨trivial, fun h => (by simp [Fence.wide] at h), ?_⟩
                  gi_at_call 19
                  refine (CallsIn.inRound l (callsIn_wide.2 HVS7.out)).mono ?_
                  rintro e w8 ⟨rfl, hb8⟩
                  have hbW8 := hb7.trans (hb8.mono hb7.size)
                  go_simp
                  refine hK _ _ ?_
                  clear hK K
                  refine wpAnyIn_done (by kernel_rfl) ?_ _
                  gi_wp2_with fail
                  gi_meet
                  exact ⟨rfl, hbW8⟩
                exact AllReadyIn.nil
              exact AllReadyIn.nil
            exact AllReadyIn.nil
          exact AllReadyIn.nil
        exact AllReadyIn.nil
    case rest =>
      obtain ⟨rfl, hbx⟩ := hcut
      have hst := HSTV.out.trans (LpStep.of_below (b := wL.heap.size) hbx)
      have HSTX := Lib.hid hst
      have HCX : Hid (wc.cell? ⟨w2.heap.size, 0, none⟩ = some (.slice C k cc)) := (hbx.cell (p := ⟨w2.heap.size, 0, none⟩) (block_lt_of_cell hcW)).trans hcW
      have HKX := Lib.hid (HKW.out.below hbx (Nat.le_refl _))
      have HXX := Lib.hid (FreshInts.lat HX.out hbx)
      have hxs := hbx.size
      have HBX := Lib.hid hbx
      clear hst hbx
      have HOP := Lib.hid (HOV.out.open_ (by omega) (by omega) (by omega) HSTX.out)
      have HO := Lib.hid (HOV.out.step (by omega) (by omega) (by omega) HSTX.out)
      have hlc6 : wL.heap.size + 6 ≤ wc.heap.size := by omega
      cases vb
      · have HF := Lib.hid (HF0.out rfl)
        clear HF0 HF1
        gi_wp2
        refine ⟨BdKeepK.of_below HBX.out, ?_, HCX.out, HKX.out⟩
        show OutInv _ _ _ _ ((pre ++ [x]).filter fun p => viewB KL (serialI KL p)) _
        rw [HF.out]
        exact HO.out
      · have HF := Lib.hid (HF1.out rfl)
        clear HF0 HF1 HO
        generalize hfp : (fun p => viewB KL (serialI KL p)) = fp at *
        have HFP := Lib.hid hfp
        clear hfp
        obtain ⟨hb, hf, ov, rv, hc, hown, hrows, hapr, hgo, hblk⟩ := HOP.out
        obtain ⟨Ao, co', rfl, hco⟩ := own_form2 hown
        have HAPR : Hid (ApartR (rv ++ [.slice A' ln ln])) := hapr.snoc fun i a m d b hAb hi => by
          obtain ⟨b', cur, e1, e2, _, _⟩ := HFV.out.2 b hAb
          have := hblk i a m d hi
          rw [e1]; simp only; omega
        have hcA : (wc.alloc (.cells #[.slice A' ln ln] 32)).drew.cell? ⟨w2.heap.size + 2, 0, none⟩ = some (.slice Ao (pre.filter fp).length co') := (((Below.refl _ wc).alloc (Nat.le_refl _) (.cells #[.slice A' ln ln] 32)).drew.cell (p := ⟨w2.heap.size + 2, 0, none⟩) (block_lt_of_cell hc)).trans hc
        have hbA : Below wc.heap.size wc (wc.alloc (.cells #[.slice A' ln ln] 32)).drew := ((Below.refl _ wc).alloc (Nat.le_refl _) _).drew
        have HBA := Lib.hid hbA
        have HOWN := Lib.hid hown
        have HOWA := Lib.hid (own_below hown hbA)
        have HROWS := Lib.hid hrows
        have HGO := Lib.hid hgo
        have hs2 : w.heap.size ≤ wc.heap.size := hb.size
        have HB := Lib.hid hb
        have HHF := Lib.hid hf
        have HHC := Lib.hid hc
        have HLK : Hid (∀ b, (∃ ad, L = some ad ∧ b = ad.block) → b < wL.heap.size ∧ b ≠ w2.heap.size + 2 ∧ b ≠ w2.heap.size + 1) := fun b hb => by
          obtain ⟨ad, h, rfl⟩ := hb
          have := HLB.out ad h
          omega
        generalize hN : (pre.filter fp).length = N at *
        have HN := Lib.hid hN
        clear hapr hblk HFV HOP hown hrows hgo hbA hb hN
        gi_wp2
        refine wpIn_region_any (by kernel_rfl) ?_
        change wpAnyIn _ _ _ _ _ _ _ _ _ (World.drew _)
        refine wpAnyIn_ready (rs := [0, 1]) (by kernel_rfl) (by simp) ?_
        refine AllReadyIn.cons rfl (fun K hK => ?_) ?_
        · skip
          go_simp
          refine hK _ _ ?_
          clear hK K
          refine wpAnyIn_ready (rs := [1]) (by kernel_rfl) (by simp) ?_
          refine AllReadyIn.cons rfl (fun K hK => ?_) ?_
          · skip
            go_simp
            refine hK _ _ ?_
            clear hK K
            refine wpAnyIn_ready (rs := [2]) (by kernel_rfl) (by simp) ?_
            refine AllReadyIn.cons rfl (fun K hK => ?_) ?_
            · skip
              go_simp
              refine ⟨trivial, fun h => (by simp [Fence.wide] at h), ?_⟩
              gi_at_call 21
              refine (CallsIn.inRound l (callsIn_wide.2 (ClipO_any A' ln c' _ (by omega) hc'))).mono ?_
              rintro e w' ⟨rfl, rfl⟩
              go_simp
              refine hK _ _ ?_
              clear hK K
              refine wpAnyIn_ready (rs := [3]) (by kernel_rfl) (by simp) ?_
              refine AllReadyIn.cons rfl (fun K hK => ?_) ?_
              · skip
                go_simp
                refine hK _ _ ?_
                clear hK K
                refine wpAnyIn_ready (rs := [4]) (by kernel_rfl) (by simp) ?_
                refine AllReadyIn.cons rfl (fun K hK => ?_) ?_
                · skip
                  refine stepIn_rows (.tmp 21) (.tmp 24) HOWA.out (by have := HBA.out.size; omega) (Src.one wc.drew (.slice A' ln ln) 32 rfl) (by omega) rfl rfl rfl rfl ?_
                  intro v1 w1 hown1 hg1 hat1
                  obtain ⟨A1, c1, rfl, hc1⟩ := own_form2 hown1
                  have hne : (Value.slice Ao N co').ownBlock ≠ some (w2.heap.size + 2) := fun e => by have := HGO.out _ e; omega
                  have c2w := (cell_grown hg1 (p := ⟨w2.heap.size + 2, 0, none⟩) (block_lt_of_cell hcA) (fun e => hne e.symm)).trans hcA
                  have f2w : w1.frozen? ⟨w2.heap.size + 2, 0, none⟩ = false := (frozen_grown hg1 (p := ⟨w2.heap.size + 2, 0, none⟩) (block_lt_of_cell hcA) (fun e => hne e.symm)).trans ((HBA.out.frozen (p := ⟨w2.heap.size + 2, 0, none⟩) (block_lt_of_cell hc)).trans hf)
                  have hkp := push_keepK (w := wL) (bo := w2.heap.size + 2) (q := w2.heap.size + 1) (bx := wT.heap.size) (ov' := .slice A1 (N + 1) c1) (by omega) HLK.out ⟨by omega, by omega, by omega⟩ (by omega) HGO.out HBA.out hg1
                  have hpu := OutInv.push (w := wL) (bo := w2.heap.size + 2) (q := w2.heap.size + 1) (xss := pre.filter fp) (by omega) (by omega) (by omega) ⟨by omega, by omega⟩ HB.out HHF.out HHC.out (by rw [HN.out]; exact HOWN.out) HROWS.out HAPR.out HGO.out HXX.out HXL.out HBA.out hlc6 (by rw [HN.out]; exact hown1) hg1 hat1
                  have hpc := push_cell (w := wL) (bo := w2.heap.size + 2) (q := w2.heap.size + 1) (p := w2.heap.size) (ov' := .slice A1 (N + 1) c1) HGO.out (by omega) (by omega) (by omega) HBA.out hg1 HCX.out
                  have hpk : ROps (w1.setCell ⟨w2.heap.size + 2, 0, none⟩ (.slice A1 (N + 1) c1)) C k KL := HKX.out.kept (by have := HBA.out.size; have := World.grownBy.size hg1; simp [World.setCell]; omega) fun ad had hlt => by
                    have h1 := HCB.out ad had
                    refine (Below.heap_setCell w1 _ _ ad.block (by simp; omega)).trans ((hg1.block ad.block (by have := HBA.out.size; omega) ?_).trans (HBA.out.block _ hlt))
                    intro e
                    have := HGO.out _ e.symm
                    omega
                  have HFIN := Lib.hid (And.intro hkp (And.intro hpu (And.intro hpc hpk)))
                  clear hkp hpu hpc hpk hown1 hg1 hat1
                  go_simp
                  refine hK _ _ ?_
                  clear hK K
                  refine wpAnyIn_ready (rs := [5]) (by kernel_rfl) (by simp) ?_
                  refine AllReadyIn.cons rfl (fun K hK => ?_) ?_
                  · skip
                    go_simp
                    refine hK _ _ ?_
                    clear hK K
                    refine wpAnyIn_done (by kernel_rfl) ?_ _
                    have hgoal : permPostK wL.heap.size wT.heap.size (fun b => ∃ ad, L = some ad ∧ b = ad.block) (fun acc V => OutInv w wL (w2.heap.size + 2) (w2.heap.size + 1) (acc.filter fp) V ∧ V.cell? ⟨w2.heap.size, 0, none⟩ = some (.slice C k cc) ∧ ROps V C k KL) (pre ++ [x]) W .normal { tmps := #[], defers := [] } (w1.setCell ⟨w2.heap.size + 2, 0, none⟩ (.slice A1 (N + 1) c1)) := by
                      refine ⟨(BdKeepK.of_below HBX.out).trans HFIN.out.1, ?_, HFIN.out.2.2⟩
                      show OutInv _ _ _ _ ((pre ++ [x]).filter fp) _
                      rw [HF.out]
                      exact HFIN.out.2.1
                    gi_wp2
                    have hfp := HFP.out
                    subst hfp
                    exact hgoal
                  exact AllReadyIn.nil
                exact AllReadyIn.nil
              exact AllReadyIn.nil
            exact AllReadyIn.nil
          exact AllReadyIn.nil
        refine AllReadyIn.cons rfl (fun K hK => ?_) ?_
        · skip
          go_simp
          refine hK _ _ ?_
          clear hK K
          refine wpAnyIn_ready (rs := [0, 2]) (by kernel_rfl) (by simp) ?_
          refine AllReadyIn.cons rfl (fun K hK => ?_) ?_
          · skip
            go_simp
            refine hK _ _ ?_
            clear hK K
            refine wpAnyIn_ready (rs := [2]) (by kernel_rfl) (by simp) ?_
            refine AllReadyIn.cons rfl (fun K hK => ?_) ?_
            · skip
              go_simp
              refine ⟨trivial, fun h => (by simp [Fence.wide] at h), ?_⟩
              gi_at_call 21
              refine (CallsIn.inRound l (callsIn_wide.2 (ClipO_any A' ln c' _ (by omega) hc'))).mono ?_
              rintro e w' ⟨rfl, rfl⟩
              go_simp
              refine hK _ _ ?_
              clear hK K
              refine wpAnyIn_ready (rs := [3]) (by kernel_rfl) (by simp) ?_
              refine AllReadyIn.cons rfl (fun K hK => ?_) ?_
              · skip
                go_simp
                refine hK _ _ ?_
                clear hK K
                refine wpAnyIn_ready (rs := [4]) (by kernel_rfl) (by simp) ?_
                refine AllReadyIn.cons rfl (fun K hK => ?_) ?_
                · skip
                  refine stepIn_rows (.tmp 21) (.tmp 24) HOWA.out (by have := HBA.out.size; omega) (Src.one wc.drew (.slice A' ln ln) 32 rfl) (by omega) rfl rfl rfl rfl ?_
                  intro v1 w1 hown1 hg1 hat1
                  obtain ⟨A1, c1, rfl, hc1⟩ := own_form2 hown1
                  have hne : (Value.slice Ao N co').ownBlock ≠ some (w2.heap.size + 2) := fun e => by have := HGO.out _ e; omega
                  have c2w := (cell_grown hg1 (p := ⟨w2.heap.size + 2, 0, none⟩) (block_lt_of_cell hcA) (fun e => hne e.symm)).trans hcA
                  have f2w : w1.frozen? ⟨w2.heap.size + 2, 0, none⟩ = false := (frozen_grown hg1 (p := ⟨w2.heap.size + 2, 0, none⟩) (block_lt_of_cell hcA) (fun e => hne e.symm)).trans ((HBA.out.frozen (p := ⟨w2.heap.size + 2, 0, none⟩) (block_lt_of_cell hc)).trans hf)
                  have hkp := push_keepK (w := wL) (bo := w2.heap.size + 2) (q := w2.heap.size + 1) (bx := wT.heap.size) (ov' := .slice A1 (N + 1) c1) (by omega) HLK.out ⟨by omega, by omega, by omega⟩ (by omega) HGO.out HBA.out hg1
                  have hpu := OutInv.push (w := wL) (bo := w2.heap.size + 2) (q := w2.heap.size + 1) (xss := pre.filter fp) (by omega) (by omega) (by omega) ⟨by omega, by omega⟩ HB.out HHF.out HHC.out (by rw [HN.out]; exact HOWN.out) HROWS.out HAPR.out HGO.out HXX.out HXL.out HBA.out hlc6 (by rw [HN.out]; exact hown1) hg1 hat1
                  have hpc := push_cell (w := wL) (bo := w2.heap.size + 2) (q := w2.heap.size + 1) (p := w2.heap.size) (ov' := .slice A1 (N + 1) c1) HGO.out (by omega) (by omega) (by omega) HBA.out hg1 HCX.out
                  have hpk : ROps (w1.setCell ⟨w2.heap.size + 2, 0, none⟩ (.slice A1 (N + 1) c1)) C k KL := HKX.out.kept (by have := HBA.out.size; have := World.grownBy.size hg1; simp [World.setCell]; omega) fun ad had hlt => by
                    have h1 := HCB.out ad had
                    refine (Below.heap_setCell w1 _ _ ad.block (by simp; omega)).trans ((hg1.block ad.block (by have := HBA.out.size; omega) ?_).trans (HBA.out.block _ hlt))
                    intro e
                    have := HGO.out _ e.symm
                    omega
                  have HFIN := Lib.hid (And.intro hkp (And.intro hpu (And.intro hpc hpk)))
                  clear hkp hpu hpc hpk hown1 hg1 hat1
                  go_simp
                  refine hK _ _ ?_
                  clear hK K
                  refine wpAnyIn_ready (rs := [5]) (by kernel_rfl) (by simp) ?_
                  refine AllReadyIn.cons rfl (fun K hK => ?_) ?_
                  · skip
                    go_simp
                    refine hK _ _ ?_
                    clear hK K
                    refine wpAnyIn_done (by kernel_rfl) ?_ _
                    have hgoal : permPostK wL.heap.size wT.heap.size (fun b => ∃ ad, L = some ad ∧ b = ad.block) (fun acc V => OutInv w wL (w2.heap.size + 2) (w2.heap.size + 1) (acc.filter fp) V ∧ V.cell? ⟨w2.heap.size, 0, none⟩ = some (.slice C k cc) ∧ ROps V C k KL) (pre ++ [x]) W .normal { tmps := #[], defers := [] } (w1.setCell ⟨w2.heap.size + 2, 0, none⟩ (.slice A1 (N + 1) c1)) := by
                      refine ⟨(BdKeepK.of_below HBX.out).trans HFIN.out.1, ?_, HFIN.out.2.2⟩
                      show OutInv _ _ _ _ ((pre ++ [x]).filter fp) _
                      rw [HF.out]
                      exact HFIN.out.2.1
                    gi_wp2
                    have hfp := HFP.out
                    subst hfp
                    exact hgoal
                  exact AllReadyIn.nil
                exact AllReadyIn.nil
              exact AllReadyIn.nil
            exact AllReadyIn.nil
          refine AllReadyIn.cons rfl (fun K hK => ?_) ?_
          · skip
            go_simp
            refine ⟨trivial, fun h => (by simp [Fence.wide] at h), ?_⟩
            gi_at_call 21
            refine (CallsIn.inRound l (callsIn_wide.2 (ClipO_any A' ln c' _ (by omega) hc'))).mono ?_
            rintro e w' ⟨rfl, rfl⟩
            go_simp
            refine hK _ _ ?_
            clear hK K
            refine wpAnyIn_ready (rs := [0, 3]) (by kernel_rfl) (by simp) ?_
            refine AllReadyIn.cons rfl (fun K hK => ?_) ?_
            · skip
              go_simp
              refine hK _ _ ?_
              clear hK K
              refine wpAnyIn_ready (rs := [3]) (by kernel_rfl) (by simp) ?_
              refine AllReadyIn.cons rfl (fun K hK => ?_) ?_
              · skip
                go_simp
                refine hK _ _ ?_
                clear hK K
                refine wpAnyIn_ready (rs := [4]) (by kernel_rfl) (by simp) ?_
                refine AllReadyIn.cons rfl (fun K hK => ?_) ?_
                · skip
                  refine stepIn_rows (.tmp 21) (.tmp 24) HOWA.out (by have := HBA.out.size; omega) (Src.one wc.drew (.slice A' ln ln) 32 rfl) (by omega) rfl rfl rfl rfl ?_
                  intro v1 w1 hown1 hg1 hat1
                  obtain ⟨A1, c1, rfl, hc1⟩ := own_form2 hown1
                  have hne : (Value.slice Ao N co').ownBlock ≠ some (w2.heap.size + 2) := fun e => by have := HGO.out _ e; omega
                  have c2w := (cell_grown hg1 (p := ⟨w2.heap.size + 2, 0, none⟩) (block_lt_of_cell hcA) (fun e => hne e.symm)).trans hcA
                  have f2w : w1.frozen? ⟨w2.heap.size + 2, 0, none⟩ = false := (frozen_grown hg1 (p := ⟨w2.heap.size + 2, 0, none⟩) (block_lt_of_cell hcA) (fun e => hne e.symm)).trans ((HBA.out.frozen (p := ⟨w2.heap.size + 2, 0, none⟩) (block_lt_of_cell hc)).trans hf)
                  have hkp := push_keepK (w := wL) (bo := w2.heap.size + 2) (q := w2.heap.size + 1) (bx := wT.heap.size) (ov' := .slice A1 (N + 1) c1) (by omega) HLK.out ⟨by omega, by omega, by omega⟩ (by omega) HGO.out HBA.out hg1
                  have hpu := OutInv.push (w := wL) (bo := w2.heap.size + 2) (q := w2.heap.size + 1) (xss := pre.filter fp) (by omega) (by omega) (by omega) ⟨by omega, by omega⟩ HB.out HHF.out HHC.out (by rw [HN.out]; exact HOWN.out) HROWS.out HAPR.out HGO.out HXX.out HXL.out HBA.out hlc6 (by rw [HN.out]; exact hown1) hg1 hat1
                  have hpc := push_cell (w := wL) (bo := w2.heap.size + 2) (q := w2.heap.size + 1) (p := w2.heap.size) (ov' := .slice A1 (N + 1) c1) HGO.out (by omega) (by omega) (by omega) HBA.out hg1 HCX.out
                  have hpk : ROps (w1.setCell ⟨w2.heap.size + 2, 0, none⟩ (.slice A1 (N + 1) c1)) C k KL := HKX.out.kept (by have := HBA.out.size; have := World.grownBy.size hg1; simp [World.setCell]; omega) fun ad had hlt => by
                    have h1 := HCB.out ad had
                    refine (Below.heap_setCell w1 _ _ ad.block (by simp; omega)).trans ((hg1.block ad.block (by have := HBA.out.size; omega) ?_).trans (HBA.out.block _ hlt))
                    intro e
                    have := HGO.out _ e.symm
                    omega
                  have HFIN := Lib.hid (And.intro hkp (And.intro hpu (And.intro hpc hpk)))
                  clear hkp hpu hpc hpk hown1 hg1 hat1
                  go_simp
                  refine hK _ _ ?_
                  clear hK K
                  refine wpAnyIn_ready (rs := [5]) (by kernel_rfl) (by simp) ?_
                  refine AllReadyIn.cons rfl (fun K hK => ?_) ?_
                  · skip
                    go_simp
                    refine hK _ _ ?_
                    clear hK K
                    refine wpAnyIn_done (by kernel_rfl) ?_ _
                    have hgoal : permPostK wL.heap.size wT.heap.size (fun b => ∃ ad, L = some ad ∧ b = ad.block) (fun acc V => OutInv w wL (w2.heap.size + 2) (w2.heap.size + 1) (acc.filter fp) V ∧ V.cell? ⟨w2.heap.size, 0, none⟩ = some (.slice C k cc) ∧ ROps V C k KL) (pre ++ [x]) W .normal { tmps := #[], defers := [] } (w1.setCell ⟨w2.heap.size + 2, 0, none⟩ (.slice A1 (N + 1) c1)) := by
                      refine ⟨(BdKeepK.of_below HBX.out).trans HFIN.out.1, ?_, HFIN.out.2.2⟩
                      show OutInv _ _ _ _ ((pre ++ [x]).filter fp) _
                      rw [HF.out]
                      exact HFIN.out.2.1
                    gi_wp2
                    have hfp := HFP.out
                    subst hfp
                    exact hgoal
                  exact AllReadyIn.nil
                exact AllReadyIn.nil
              exact AllReadyIn.nil
            refine AllReadyIn.cons rfl (fun K hK => ?_) ?_
            · skip
              go_simp
              refine hK _ _ ?_
              clear hK K
              refine wpAnyIn_ready (rs := [0]) (by kernel_rfl) (by simp) ?_
              refine AllReadyIn.cons rfl (fun K hK => ?_) ?_
              · skip
                go_simp
                refine hK _ _ ?_
                clear hK K
                refine wpAnyIn_ready (rs := [4]) (by kernel_rfl) (by simp) ?_
                refine AllReadyIn.cons rfl (fun K hK => ?_) ?_
                · skip
                  refine stepIn_rows (.tmp 21) (.tmp 24) HOWA.out (by have := HBA.out.size; omega) (Src.one wc.drew (.slice A' ln ln) 32 rfl) (by omega) rfl rfl rfl rfl ?_
                  intro v1 w1 hown1 hg1 hat1
                  obtain ⟨A1, c1, rfl, hc1⟩ := own_form2 hown1
                  have hne : (Value.slice Ao N co').ownBlock ≠ some (w2.heap.size + 2) := fun e => by have := HGO.out _ e; omega
                  have c2w := (cell_grown hg1 (p := ⟨w2.heap.size + 2, 0, none⟩) (block_lt_of_cell hcA) (fun e => hne e.symm)).trans hcA
                  have f2w : w1.frozen? ⟨w2.heap.size + 2, 0, none⟩ = false := (frozen_grown hg1 (p := ⟨w2.heap.size + 2, 0, none⟩) (block_lt_of_cell hcA) (fun e => hne e.symm)).trans ((HBA.out.frozen (p := ⟨w2.heap.size + 2, 0, none⟩) (block_lt_of_cell hc)).trans hf)
                  have hkp := push_keepK (w := wL) (bo := w2.heap.size + 2) (q := w2.heap.size + 1) (bx := wT.heap.size) (ov' := .slice A1 (N + 1) c1) (by omega) HLK.out ⟨by omega, by omega, by omega⟩ (by omega) HGO.out HBA.out hg1
                  have hpu := OutInv.push (w := wL) (bo := w2.heap.size + 2) (q := w2.heap.size + 1) (xss := pre.filter fp) (by omega) (by omega) (by omega) ⟨by omega, by omega⟩ HB.out HHF.out HHC.out (by rw [HN.out]; exact HOWN.out) HROWS.out HAPR.out HGO.out HXX.out HXL.out HBA.out hlc6 (by rw [HN.out]; exact hown1) hg1 hat1
                  have hpc := push_cell (w := wL) (bo := w2.heap.size + 2) (q := w2.heap.size + 1) (p := w2.heap.size) (ov' := .slice A1 (N + 1) c1) HGO.out (by omega) (by omega) (by omega) HBA.out hg1 HCX.out
                  have hpk : ROps (w1.setCell ⟨w2.heap.size + 2, 0, none⟩ (.slice A1 (N + 1) c1)) C k KL := HKX.out.kept (by have := HBA.out.size; have := World.grownBy.size hg1; simp [World.setCell]; omega) fun ad had hlt => by
                    have h1 := HCB.out ad had
                    refine (Below.heap_setCell w1 _ _ ad.block (by simp; omega)).trans ((hg1.block ad.block (by have := HBA.out.size; omega) ?_).trans (HBA.out.block _ hlt))
                    intro e
                    have := HGO.out _ e.symm
                    omega
                  have HFIN := Lib.hid (And.intro hkp (And.intro hpu (And.intro hpc hpk)))
                  clear hkp hpu hpc hpk hown1 hg1 hat1
                  go_simp
                  refine hK _ _ ?_
                  clear hK K
                  refine wpAnyIn_ready (rs := [5]) (by kernel_rfl) (by simp) ?_
                  refine AllReadyIn.cons rfl (fun K hK => ?_) ?_
                  · skip
                    go_simp
                    refine hK _ _ ?_
                    clear hK K
                    refine wpAnyIn_done (by kernel_rfl) ?_ _
                    have hgoal : permPostK wL.heap.size wT.heap.size (fun b => ∃ ad, L = some ad ∧ b = ad.block) (fun acc V => OutInv w wL (w2.heap.size + 2) (w2.heap.size + 1) (acc.filter fp) V ∧ V.cell? ⟨w2.heap.size, 0, none⟩ = some (.slice C k cc) ∧ ROps V C k KL) (pre ++ [x]) W .normal { tmps := #[], defers := [] } (w1.setCell ⟨w2.heap.size + 2, 0, none⟩ (.slice A1 (N + 1) c1)) := by
                      refine ⟨(BdKeepK.of_below HBX.out).trans HFIN.out.1, ?_, HFIN.out.2.2⟩
                      show OutInv _ _ _ _ ((pre ++ [x]).filter fp) _
                      rw [HF.out]
                      exact HFIN.out.2.1
                    gi_wp2
                    have hfp := HFP.out
                    subst hfp
                    exact hgoal
                  exact AllReadyIn.nil
                exact AllReadyIn.nil
              exact AllReadyIn.nil
            exact AllReadyIn.nil
          exact AllReadyIn.nil
        exact AllReadyIn.nil
end Go.Proofs.YtkbclcgdkbhgdaaGreat
namespace Go.Proofs.YtkbclcgdkbhgdaaGreat
open Go.RowKit Go.BigFrame
set_option linter.unusedVariables false

theorem finI_take {s : List OpV} {x : Nat} (h : x < 3) : (finI s).take (x + 1) = (finI s).take x ++ [lw (fnB s (x : Int)) s s.length] := by
  unfold finI
  rcases (by omega : x = 0 ∨ x = 1 ∨ x = 2) with rfl | rfl | rfl <;> rfl

set_option maxRecDepth 100000 in
set_option maxHeartbeats 1000000 in
theorem sfinals_any (A : Option Addr) (n c : Nat) (s : List OpV) (w : World) (hx : ROps w A n s) :
    Calls Tryz.prog 61 #[.slice A n c] w (RetInts w (finI s)) := by
  have hn := hx.2.1
  have hl := hx.1
  have HX := Lib.hid hx
  have HL := Lib.hid hl
  clear hx hl
  have HST : Hid ((w.alloc (.cells #[] 3)).ownsRow w.heap.size 3 1 (.slice (some ⟨w.heap.size, 0, none⟩) 0 0) 0 (intCells ((finI s).take 0))) :=
    World.ownsRow_made w #[] 0 (Nat.le_refl _) (by decide) rfl
  go_enter Tryz.func61, Tryz.ntmps61
  go_wp2_with fail
  go_loopw [3, 4] (fun ov i wr => ∃ x : Nat, x ≤ 3 ∧ i = .int .i64 x ∧ Below w.heap.size w wr ∧ wr.ownsRow w.heap.size 3 1 ov x (intCells ((finI s).take x))) (fun _ i _ => 3 - (intOf i).toNat)
  case atStart => exact ⟨0, Nat.zero_le _, rfl, (Below.refl _ _).alloc (Nat.le_refl _) _, HST.out⟩
  case round =>
    clear HST
    obtain ⟨wo, rfl⟩ : ∃ wo : World, wo = wr := ⟨_, rfl⟩
    obtain ⟨x, hx3, rfl, hb, hown⟩ := hrel
    have HOWN := Lib.hid hown
    by_cases hlt : x < 3
    · clear hown
      have hxi : (x : Int) < 3 := by omega
      go_wp2_with fail
      go_loopw [5, 6] (fun v i wr => ∃ k : Nat, k ≤ n ∧ i = .int .i64 k ∧ v = .int .i64 (lw (fnB s (x : Int)) s k) ∧ Below wo.heap.size wo wr) (fun _ i _ => n - (intOf i).toNat)
      case atStart => exact ⟨0, Nat.zero_le _, rfl, rfl, Below.refl _ _⟩
      case round =>
        obtain ⟨wi, rfl⟩ : ∃ wi : World, wi = wr := ⟨_, rfl⟩
        obtain ⟨k, hk, rfl, rfl, hbi⟩ := hrel
        have hbwi := hb.trans (hbi.mono hb.size)
        by_cases hltk : k < n
        · obtain ⟨b, off, o, rfl, hbl, ho, c0, c1, c2⟩ := (HX.out.below hbwi (Nat.le_refl _)).at_ hltk
          have HS := Lib.hid (lw_succ (W := fnB s (x : Int)) ho)
          have hcE := sendOf_any (some ⟨b, off, none⟩) n c s o.tx wi (HX.out.below hbwi (Nat.le_refl _))
          obtain ⟨E, hE⟩ : ∃ E, endOf s o.tx = E := ⟨_, rfl⟩
          rw [hE] at hcE
          have HCE := Lib.hid hcE
          have HEE := Lib.hid hE
          generalize hP : lw (fnB s (x : Int)) s k = P at *
          obtain ⟨ot, ok, oi⟩ := o
          simp only at c0 c1 c2
          have hki : (k : Int) < (n : Int) := by omega
          clear ho hcE hE hP
          by_cases hk1 : ok = 1
          · by_cases hxo : oi = (x : Int)
            · subst hk1; subst hxo
              by_cases h3 : E = 3
              · subst h3
                have HN : Hid (lw (fnB s (x : Int)) s (k + 1) = P) := by
                  show _ = _
                  rw [HS.out, if_neg]
                  unfold fnB
                  simp only [HEE.out]
                  simp
                clear HS
                go_wp2_with fail
                refine HCE.out.mono ?_
                rintro e w2 ⟨rfl, hb2⟩
                go_wp2_with fail
                go_roundw
                case rel => exact ⟨k + 1, by omega, by go_num, by rw [HN.out], hbi.trans (hb2.mono hbi.size)⟩
                case measure => simp [intOf]; omega
              · have HN : Hid (lw (fnB s (x : Int)) s (k + 1) = ot) := by
                  show _ = _
                  rw [HS.out, if_pos]
                  unfold fnB
                  simp only [HEE.out]
                  simp [h3]
                have h3' : (E != 3) = true := by rw [bne_iff_ne]; exact h3
                have c0' : ∀ w2 : World, Below wi.heap.size wi w2 → w2.cell? ⟨b, off + k * 3, none⟩ = some (.int .i64 ot) := fun w2 h => (h.cell (p := ⟨b, off + k * 3, none⟩) hbl).trans c0
                have HC0 := Lib.hid c0'
                clear HS c0'
                go_wp2_with fail
                refine HCE.out.mono ?_
                rintro e w2 ⟨rfl, hb2⟩
                have c00 := HC0.out w2 hb2
                clear c0 c1 c2
                go_wp2_with fail
                go_roundw
                case rel => exact ⟨k + 1, by omega, by go_num, by rw [HN.out], hbi.trans (hb2.mono hbi.size)⟩
                case measure => simp [intOf]; omega
            · have hxo' : (oi == (x : Int)) = false := by rw [beq_eq_false_iff_ne]; exact hxo
              have HN : Hid (lw (fnB s (x : Int)) s (k + 1) = P) := by
                show _ = _
                rw [HS.out, if_neg]
                unfold fnB
                simp [hxo]
              subst hk1
              clear HS HCE
              go_wp2_with fail
              go_roundw
              case rel => exact ⟨k + 1, by omega, by go_num, by rw [HN.out], hbi⟩
              case measure => simp [intOf]; omega
          · have hk1' : (ok == 1) = false := by rw [beq_eq_false_iff_ne]; exact hk1
            have HN : Hid (lw (fnB s (x : Int)) s (k + 1) = P) := by
              show _ = _
              rw [HS.out, if_neg]
              unfold fnB
              simp [hk1]
            clear HS HCE
            go_wp2_with fail
            go_roundw
            case rel => exact ⟨k + 1, by omega, by go_num, by rw [HN.out], hbi⟩
            case measure => simp [intOf]; omega
        · obtain rfl : k = n := by omega
          have HT : Hid ((finI s).take (x + 1) = (finI s).take x ++ [lw (fnB s (x : Int)) s k]) := by
            show _ = _
            rw [← HL.out]
            exact finI_take hlt
          have hown2 := own_below HOWN.out hbi
          have hszw := hbwi.size
          generalize hP : lw (fnB s (x : Int)) s k = P at *
          clear hP
          go_wp2_with (at_builtin; refine app_ints (.tmp 48) (.tmp 50) (hown2.alloc _) (by simp; omega) (lit1 rfl P) (by omega) rfl rfl rfl rfl ?_; intro v3 w3 hown3 hg3 hat3)
          go_roundw
          case rel => exact ⟨x + 1, by omega, by go_num, (hbwi.alloc hbwi.size _).grown hg3 (by simp; have := hbwi.size; omega) (fun j e => (World.ownsRow.lt hown2 j e).1), by rw [HT.out]; exact hown3⟩
          case measure => simp [intOf]; omega
    · obtain rfl : x = 3 := by omega
      obtain ⟨Ao, co, rfl, hco⟩ := own_form2 hown
      have HR : Hid (RetInts w (finI s) (.returned (.slice Ao 3 co)) wo) := by
        have hown' : wo.ownsRow w.heap.size 3 1 (.slice Ao 3 co) 3 (intCells (finI s)) := hown
        exact RetInts.mk rfl hco (FreshInts.of_own hown' (Nat.le_refl _) (by omega)) hb
      clear hown HOWN
      go_wp2_with fail
      go_ret
      exact HR.out
end Go.Proofs.YtkbclcgdkbhgdaaGreat
namespace Go.Proofs.YtkbclcgdkbhgdaaGreat
open Go.RowKit Go.BigFrame
set_option linter.unusedVariables false

/-- The pairs that have been looked at pass. -/
def ssRow (a b : List OpV) (i : Nat) (o : OpV) (q : Nat) : Prop := ∀ k p, i < k → k < q → a[k]? = some p → confB o p = true → ¬ mirN a b k < mirN a b i
def ssPre (a b : List OpV) (k : Nat) : Prop := ∀ i o, i < k → a[i]? = some o → ssRow a b i o a.length
theorem ssPre_succ {a b : List OpV} {k : Nat} {o : OpV} (h : ssPre a b k) (ho : a[k]? = some o) (hr : ssRow a b k o a.length) : ssPre a b (k + 1) := by
  intro i p hi hp
  by_cases e : i = k
  · subst e; rw [ho] at hp; injection hp with hp; subst hp; exact hr
  · exact h i p (by omega) hp
theorem ssRow_succ {a b : List OpV} {i q : Nat} {o p : OpV} (h : ssRow a b i o (i + 1 + q)) (hp : a[i + 1 + q]? = some p) (ht : confB o p = true → ¬ mirN a b (i + 1 + q) < mirN a b i) : ssRow a b i o (i + 1 + (q + 1)) := by
  intro k r h1 h2 hr
  by_cases e : k = i + 1 + q
  · subst e; rw [hp] at hr; injection hr with hr; subst hr; exact ht
  · exact h k r h1 (by omega) hr
theorem ss_done {a b : List OpV} (ho : SameOps a b) (h : ssPre a b a.length) : sameB a b = true :=
  same_doneS ho fun i k o p hik hi hk hc => h i o (List.getElem?_eq_some_iff.1 hi).1 hi k p hik (List.getElem?_eq_some_iff.1 hk).1 hk hc

def NumIs (a : List OpV) (j v : Nat) : Prop := ∃ p, a[j]? = some p ∧ cntN a p.tx j = v

end Go.Proofs.YtkbclcgdkbhgdaaGreat
namespace Go.Proofs.YtkbclcgdkbhgdaaGreat
open Go.RowKit Go.BigFrame
set_option linter.unusedVariables false

def SrcArg (w : World) (C : Option Addr) (n : Nat) (j : Nat) (v : Int) : Prop := ∃ s o, ROps w C n s ∧ s[j]? = some o ∧ sfTo s j o.item j = v
def vsPre (a b : List OpV) (k : Nat) : Prop := ∀ i o, i < k → a[i]? = some o → o.kind = 0 → vsrc a i o = vsrc b (mirN a b i) o
theorem vsPre_succ {a b : List OpV} {k : Nat} {o : OpV} (h : vsPre a b k) (ho : a[k]? = some o) (ht : o.kind = 0 → vsrc a k o = vsrc b (mirN a b k) o) : vsPre a b (k + 1) := by
  intro i p hi hp hk
  by_cases e : i = k
  · subst e; rw [ho] at hp; injection hp with hp; subst hp; exact ht hk
  · exact h i p (by omega) hp hk
theorem vs_done {a b : List OpV} (ho : SameOps a b) (h : vsPre a b a.length) (hf : finI a = finI b) : viewB a b = true :=
  view_done ho (fun i o hi hk => h i o (List.getElem?_eq_some_iff.1 hi).1 hi hk) hf

set_option maxRecDepth 100000 in
set_option maxHeartbeats 2000000 in
theorem sviewSame_any (A B : Option Addr) (n m c d : Nat) (a b : List OpV) (w : World) (hx : ROps w A n a) (hy : ROps w B m b) (hva : validS a = true) (hvb : validS b = true) :
    Calls Tryz.prog 28 #[.slice A n c, .slice B m d] w fun e w' => e = .returned (.bool (viewB a b)) ∧ Below w.heap.size w w' := by
  have hn := hx.2.1
  have hla := hx.1
  have HX := Lib.hid hx
  have HY := Lib.hid hy
  have HLA := Lib.hid hla
  have hxa : Tx4 a := fun o ho => validS_tx3 hva ho
  have hxb : Tx4 b := fun o ho => validS_tx3 hvb ho
  have HSO := Lib.hid (ssameOps_any A B n m c d a b w hx hy)
  have HSI := Lib.hid (sameOps_iff hxa hxb)
  have HVA := Lib.hid hva
  have HVB := Lib.hid hvb
  clear hx hy hva hvb hxa hxb
  go_enter Tryz.func28, Tryz.ntmps28
  go_wp2_with fail
  cases hso : sameOpsB a b
  · have HF : Hid (viewB a b = false) := view_not_ops fun h => by have := HSI.out.2 h; rw [hso] at this; cases this
    rw [hso] at HSO
    refine HSO.out.mono ?_
    rintro e w3 ⟨rfl, hb3⟩
    go_wp2_with fail
    go_ret
    exact ⟨ret_bool HF.out.symm, hb3⟩
  have HS : Hid (SameOps a b) := HSI.out.1 hso
  rw [hso] at HSO
  clear hso HSI
  refine HSO.out.mono ?_
  rintro e w3 ⟨rfl, hb3⟩
  clear HSO
  go_wp2_with fail
  go_loopw [5] (fun i wr => ∃ k : Nat, k ≤ n ∧ i = .int .i64 k ∧ Below w.heap.size w wr ∧ vsPre a b k) (fun i _ => n - (intOf i).toNat)
  case atStart => exact ⟨0, Nat.zero_le _, rfl, hb3, fun i o h => by omega⟩
  case round =>
    obtain ⟨wi, rfl⟩ : ∃ wo : World, wo = wr := ⟨_, rfl⟩
    obtain ⟨i, hi, rfl, hb, hpre⟩ := hrel
    have HPRE := Lib.hid hpre
    clear hpre
    by_cases hlt : i < n
    · have hxi := HX.out.below hb (Nat.le_refl _)
      have hyi := HY.out.below hb (Nat.le_refl _)
      obtain ⟨b0, off, o, rfl, hbl, ho, c0, c1, _⟩ := hxi.at_ hlt
      have HSN := Lib.hid (vsPre_succ HPRE.out ho)
      obtain ⟨mi, hmi⟩ : ∃ mi, mirN a b i = mi := ⟨_, rfl⟩
      obtain ⟨hbi1, hbi2⟩ := mirN_spec HS.out ho
      rw [hmi] at hbi1 hbi2 HSN
      obtain ⟨v1, hv1⟩ : ∃ v, vsrc a i o = v := ⟨_, rfl⟩
      obtain ⟨v2, hv2⟩ : ∃ v, vsrc b mi o = v := ⟨_, rfl⟩
      rw [hv1, hv2] at HSN
      have HF : Hid (o.kind = 0 → v1 ≠ v2 → viewB a b = false) := fun h1 h2 => view_fail ho h1 (by rw [hmi, hv1, hv2]; exact h2)
      have hS1 : SrcArg wi (some ⟨b0, off, none⟩) n i v1 := ⟨a, o, hxi, ho, by rw [sf_eq HVA.out]; exact hv1⟩
      have hS2 : SrcArg wi B m mi v2 := ⟨b, o, hyi, hbi1, by rw [sf_eq HVB.out]; exact hv2⟩
      have hN1 : NumIs a i (cntN a o.tx i) := ⟨o, ho, rfl⟩
      have hA1' : At b o.tx (cntN a o.tx i) mi := ⟨o, hbi1, rfl, hbi2⟩
      have hss : ∀ (z : Later wi) (C : Option Addr) (nn cc j : Nat) (v : Int), SrcArg wi C nn j v → Calls Tryz.prog 58 #[.slice C nn cc, .int .i64 (j : Int)] z.1 fun e w' => e = .returned (.int .i64 v) ∧ Below z.1.heap.size z.1 w' := by
        rintro z C nn cc j v ⟨s, o, h1, h2, rfl⟩
        exact source_any C nn cc j s o z.1 (h1.later z) h2
      have hnn : ∀ (z : Later wi) (j v : Nat), NumIs a j v → Calls Tryz.prog 60 #[.slice (some ⟨b0, off, none⟩) n c, .int .i64 (j : Int)] z.1 fun e w' => e = .returned (.int .i64 (v : Int)) ∧ Below z.1.heap.size z.1 w' := by
        rintro z j v ⟨p, hp, rfl⟩
        exact numberOf_any (some ⟨b0, off, none⟩) n c j a p z.1 (hxi.later z) hp
      have hpp : ∀ (z : Later wi) (t : Int) (K j : Nat), At b t K j → Calls Tryz.prog 59 #[.slice B m d, .int .i64 t, .int .i64 (K : Int)] z.1 fun e w' => e = .returned (.int .i64 (j : Int)) ∧ Below z.1.heap.size z.1 w' := fun z t K j h =>
        placeOf_any B m d K j b t z.1 (hyi.later z) h
      generalize cntN a o.tx i = ci at *
      have L0 := Later.cell c0
      have L1 := Later.cell c1
      have H1 := Lib.hid hss
      have H2 := Lib.hid hnn
      have H4 := Lib.hid hpp
      have hii : (i : Int) < (n : Int) := by omega
      have hi0 : (0 : Int) ≤ (i : Int) := by omega
      obtain ⟨ot, ok, oi⟩ := o
      simp only at L0 L1 hA1' HF HSN
      clear hss hnn hpp c0 c1 ho hmi hv1 hv2 hbi1 hbi2 hxi hyi HPRE
      by_cases hk : ok = 0
      · subst hk
        by_cases hv : v1 = v2
        · subst hv
          have HN := Lib.hid (HSN.out (fun _ => rfl))
          clear HF HSN
          go_wp2_with fail
          refine region_later (by kernel_rfl) (by kernel_rfl) ?_
          repeat (go_big_quiet_step (first | (go_at_call 58; exact later_call _ (H1.out _ _ _ _ _ _ (by assumption))) | (go_at_call 60; exact later_call _ (H2.out _ _ _ (by assumption))) | (go_at_call 59; exact later_call _ (H4.out _ _ _ _ (by assumption)))))
          refine wpQuiet_nil ?_
          rintro _ ⟨z, rfl⟩
          go_wp2_with fail
          go_roundw
          case rel => exact ⟨i + 1, by omega, by go_num, hb.trans (z.2.mono hb.size), HN.out⟩
          case measure => simp [intOf]; omega
        · have HFF := Lib.hid (HF.out rfl hv)
          have hvn : (v1 != v2) = true := by rw [bne_iff_ne]; exact hv
          clear HF HSN
          go_wp2_with fail
          refine region_later (by kernel_rfl) (by kernel_rfl) ?_
          repeat (go_big_quiet_step (first | (go_at_call 58; exact later_call _ (H1.out _ _ _ _ _ _ (by assumption))) | (go_at_call 60; exact later_call _ (H2.out _ _ _ (by assumption))) | (go_at_call 59; exact later_call _ (H4.out _ _ _ _ (by assumption)))))
          refine wpQuiet_nil ?_
          rintro _ ⟨z, rfl⟩
          go_wp2_with fail
          go_ret
          exact ⟨ret_bool HFF.out.symm, hb.trans (z.2.mono hb.size)⟩
      · have HN := Lib.hid (HSN.out (fun e => absurd e hk))
        have hkn : (ok == 0) = false := by rw [beq_eq_false_iff_ne]; exact hk
        clear HF HSN
        go_wp2_with fail
        refine region_later (by kernel_rfl) (by kernel_rfl) ?_
        repeat (go_big_quiet_step (fail))
        refine wpQuiet_nil ?_
        rintro _ ⟨z, rfl⟩
        go_wp2_with fail
        go_roundw
        case rel => exact ⟨i + 1, by omega, by go_num, hb.trans (z.2.mono hb.size), HN.out⟩
        case measure => simp [intOf]; omega
    · obtain rfl : i = n := by omega
      have HP : Hid (vsPre a b a.length) := by show vsPre _ _ _; rw [HLA.out]; exact HPRE.out
      have HFA := Lib.hid (sfinals_any A i c a wi (HX.out.below hb (Nat.le_refl _)))
      have HD : Hid (finI a = finI b → viewB a b = true) := fun h => vs_done HS.out HP.out h
      have HE : Hid (finI a ≠ finI b → viewB a b = false) := fun h => view_not_fin h
      go_wp2_with fail
      refine HFA.out.mono ?_
      rintro e w4 ⟨X, xc, rfl, hxc, hfx, hb4⟩
      have hbw4 := hb.trans (hb4.mono hb.size)
      have HXF := Lib.hid hfx.1
      have HFB := Lib.hid (sfinals_any B m d b w4 (HY.out.below hbw4 (Nat.le_refl _)))
      clear hfx HFA
      go_wp2_with fail
      refine HFB.out.mono ?_
      rintro e w5 ⟨Y, yc, rfl, hyc, hfy, hb5⟩
      have hbw5 := hbw4.trans (hb5.mono hbw4.size)
      have HYF := Lib.hid hfy.1
      have HXF5 := Lib.hid (HXF.out.below hb5 (Nat.le_refl _))
      have e1 : (finI a).length = 3 := rfl
      have e2 : (finI b).length = 3 := rfl
      rw [e1] at HXF5 ⊢
      rw [e2] at HYF ⊢
      clear hfy HFB HXF hxc hyc
      generalize hfa : finI a = xs at *
      generalize hfb : finI b = ys at *
      clear hfa hfb
      have HE1 := Lib.hid e1
      have HE2 := Lib.hid e2
      clear e1 e2
      go_wp2_with fail
      go_loopw [8] (fun j wr => ∃ q : Nat, q ≤ 3 ∧ j = .int .i64 q ∧ Below w5.heap.size w5 wr ∧ ∀ j, j < q → xs[j]? = ys[j]?) (fun j _ => 3 - (intOf j).toNat)
      case atStart => exact ⟨0, Nat.zero_le _, rfl, Below.refl _ _, by omega⟩
      case round =>
        obtain ⟨q, hq, rfl, hb6, hsame⟩ := hrel
        have hbw6 := hbw5.trans (hb6.mono hbw5.size)
        by_cases hltq : q < 3
        · obtain ⟨b1, off1, x, rfl, hbl1, hox, c0⟩ := (HXF5.out.below hb6 (Nat.le_refl _)).at_ hltq
          obtain ⟨b2, off2, y, rfl, hbl2, hoy, d0⟩ := (HYF.out.below hb6 (Nat.le_refl _)).at_ hltq
          have HSN : Hid (x = y → ∀ j, j < q + 1 → xs[j]? = ys[j]?) := fun h j hj => by
            by_cases e : j = q
            · subst e; rw [hox, hoy, h]
            · exact hsame j (by omega)
          have HT : Hid (¬ x = y → viewB a b = false) := fun h => HE.out fun e => by
            rw [e, hoy] at hox
            injection hox with hox
            exact h hox.symm
          have L0 := Later.cell c0
          have M0 := Later.cell d0
          have hqi : (q : Int) < 3 := by omega
          have hq0 : (0 : Int) ≤ (q : Int) := by omega
          clear hsame hox hoy c0 d0
          by_cases hxy : x = y
          · subst hxy
            have HN := Lib.hid (HSN.out rfl)
            go_wp2_with fail
            refine region_later (by kernel_rfl) (by kernel_rfl) ?_
            repeat (go_big_quiet_step (fail))
            refine wpQuiet_nil ?_
            rintro _ ⟨z, rfl⟩
            go_wp2_with fail
            go_roundw
            case rel => exact ⟨q + 1, by omega, by go_num, hb6.trans (z.2.mono hb6.size), HN.out⟩
            case measure => simp [intOf]; omega
          · have HN := Lib.hid (HT.out hxy)
            have hxyn : (x != y) = true := by rw [bne_iff_ne]; exact hxy
            go_wp2_with fail
            refine region_later (by kernel_rfl) (by kernel_rfl) ?_
            repeat (go_big_quiet_step (fail))
            refine wpQuiet_nil ?_
            rintro _ ⟨z, rfl⟩
            go_wp2_with fail
            go_ret
            exact ⟨ret_bool HN.out.symm, hbw6.trans (z.2.mono hbw6.size)⟩
        · have HN : Hid (viewB a b = true) := HD.out (List.ext_getElem? fun j => by
            by_cases hj : j < 3
            · exact hsame j (by omega)
            · rw [List.getElem?_eq_none (by rw [HE1.out]; omega), List.getElem?_eq_none (by rw [HE2.out]; omega)])
          clear hsame
          go_wp2_with fail
          go_ret
          exact ⟨ret_bool HN.out.symm, hbw6⟩
end Go.Proofs.YtkbclcgdkbhgdaaGreat
namespace Go.Proofs.YtkbclcgdkbhgdaaGreat
open Go.RowKit Go.BigFrame
set_option linter.unusedVariables false

end Go.Proofs.YtkbclcgdkbhgdaaGreat
namespace Go.Proofs.YtkbclcgdkbhgdaaGreat
open Go.RowKit Go.BigFrame
set_option linter.unusedVariables false

end Go.Proofs.YtkbclcgdkbhgdaaGreat
namespace Go.Proofs.YtkbclcgdkbhgdaaGreat
open Go.RowKit Go.BigFrame
set_option linter.unusedVariables false

/-- The marks that are laid into a list. -/
def mkOps (k : Int) : Nat → List OpV
  | 0 => []
  | n + 1 => mkOps k n ++ [⟨k + 3 * n, k + 3 * n + 1, k + 3 * n + 2⟩]
def mkInts (k : Int) : Nat → List Int
  | 0 => []
  | n + 1 => mkInts k n ++ [k + n]
theorem mkOps_len (k : Int) (n : Nat) : (mkOps k n).length = n := by induction n with
  | zero => rfl
  | succ n ih => simp [mkOps, ih]
theorem mkInts_len (k : Int) (n : Nat) : (mkInts k n).length = n := by induction n with
  | zero => rfl
  | succ n ih => simp [mkInts, ih]
theorem mkOps_at (k : Int) (n : Nat) : ∀ i, i < n → (mkOps k n)[i]? = some ⟨k + 3 * i, k + 3 * i + 1, k + 3 * i + 2⟩ := by
  induction n with
  | zero => intro i h; omega
  | succ n ih =>
    intro i h
    simp only [mkOps]
    by_cases e : i = n
    · subst e; rw [List.getElem?_append_right (by rw [mkOps_len]; omega), mkOps_len]; simp
    · rw [List.getElem?_append_left (by rw [mkOps_len]; omega)]; exact ih i (by omega)
theorem mkInts_at (k : Int) (n : Nat) : ∀ i, i < n → (mkInts k n)[i]? = some (k + i) := by
  induction n with
  | zero => intro i h; omega
  | succ n ih =>
    intro i h
    simp only [mkInts]
    by_cases e : i = n
    · subst e; rw [List.getElem?_append_right (by rw [mkInts_len]; omega), mkInts_len]; simp
    · rw [List.getElem?_append_left (by rw [mkInts_len]; omega)]; exact ih i (by omega)
theorem set_mid {α : Type} {zs xs : List α} {k : Nat} (hl : zs.length = k) (hk : k < xs.length) (v : α) : (zs ++ xs.drop k).set k v = (zs ++ [v]) ++ xs.drop (k + 1) := by
  rw [List.set_append_right _ _ (by omega), hl, Nat.sub_self, List.drop_eq_getElem_cons hk, List.set_cons_zero, List.append_assoc]; rfl

def MarkedOps (A : Option Addr) (n : Nat) (k : Int) (w : World) (e : Ending) (w' : World) : Prop :=
  e = .returned (.int .i64 (k + 3 * n)) ∧ ROps w' A n (mkOps k n) ∧ w.grownBy w' (A.map Addr.block)
def MarkedInts (A : Option Addr) (n : Nat) (k : Int) (w : World) (e : Ending) (w' : World) : Prop :=
  e = .returned (.int .i64 (k + n)) ∧ RInts w' A n (mkInts k n) ∧ w.grownBy w' (A.map Addr.block)

end Go.Proofs.YtkbclcgdkbhgdaaGreat
namespace Go.Proofs.YtkbclcgdkbhgdaaGreat
open Go.RowKit Go.BigFrame
set_option linter.unusedVariables false

theorem FreshOps.at_ {w0 w : World} {A : Option Addr} {n : Nat} {xs : List OpV} (h : FreshOps w0 w A n xs) : ∀ ad, A = some ad → w0.heap.size ≤ ad.block ∧ ad.block < w.heap.size := by
  intro ad had
  obtain ⟨b, cur, rfl, hge, hh, _⟩ := h.2 ad had
  exact ⟨hge, lt_of_block hh⟩
theorem FreshInts.at_ {w0 w : World} {A : Option Addr} {n : Nat} {xs : List Int} (h : FreshInts w0 w A n xs) : ∀ ad, A = some ad → w0.heap.size ≤ ad.block ∧ ad.block < w.heap.size := by
  intro ad had
  obtain ⟨b, cur, rfl, hge, hh, _⟩ := h.2 ad had
  exact ⟨hge, lt_of_block hh⟩
theorem FreshOps.below {w0 w w' : World} {A : Option Addr} {n : Nat} {xs : List OpV} (h : FreshOps w0 w A n xs) (hb : Below w.heap.size w w') : FreshOps w0 w' A n xs :=
  ⟨h.1.below hb (Nat.le_refl _), fun ad had => by obtain ⟨b, cur, e, hge, hh, hs⟩ := h.2 ad had; exact ⟨b, cur, e, hge, (hb.block b (lt_of_block hh)).trans hh, hs⟩⟩
theorem FreshInts.below {w0 w w' : World} {A : Option Addr} {n : Nat} {xs : List Int} (h : FreshInts w0 w A n xs) (hb : Below w.heap.size w w') : FreshInts w0 w' A n xs :=
  ⟨h.1.below hb (Nat.le_refl _), fun ad had => by obtain ⟨b, cur, e, hge, hh, hs⟩ := h.2 ad had; exact ⟨b, cur, e, hge, (hb.block b (lt_of_block hh)).trans hh, hs⟩⟩
/-- The block of one address is not that of the other. -/
def Apart (A B : Option Addr) : Prop := ∀ a b, A = some a → B = some b → a.block ≠ b.block
theorem Apart.row {A B : Option Addr} (h : Apart A B) : ∀ b, B = some b → A.map Addr.block ≠ some b.block := by
  intro b hb e
  cases A with
  | none => cases e
  | some a => injection e with e; exact h a b rfl hb e
theorem Apart.of_lt {A B : Option Addr} {k : Nat} (h1 : ∀ a, A = some a → k ≤ a.block) (h2 : ∀ b, B = some b → b.block < k) : Apart A B := fun a b ha hb e => by have := h1 a ha; have := h2 b hb; omega
theorem Apart.symm {A B : Option Addr} (h : Apart A B) : Apart B A := fun a b ha hb e => h b a hb ha e.symm
theorem FreshInts.grown {w0 w w' : World} {A : Option Addr} {n : Nat} {xs : List Int} {row : Option Nat} (h : FreshInts w0 w A n xs) (hg : w.grownBy w' row) (hne : ∀ b, A = some b → row ≠ some b.block) : FreshInts w0 w' A n xs :=
  ⟨h.1.grown hg hne, fun ad had => by obtain ⟨b, cur, e, hge, hh, hs⟩ := h.2 ad had; exact ⟨b, cur, e, hge, (hg.block b (lt_of_block hh) (fun e2 => hne _ had (by rw [← e2, e]))).trans hh, hs⟩⟩
theorem FreshOps.grown {w0 w w' : World} {A : Option Addr} {n : Nat} {xs : List OpV} {row : Option Nat} (h : FreshOps w0 w A n xs) (hg : w.grownBy w' row) (hne : ∀ b, A = some b → row ≠ some b.block) : FreshOps w0 w' A n xs :=
  ⟨h.1.grown hg hne, fun ad had => by obtain ⟨b, cur, e, hge, hh, hs⟩ := h.2 ad had; exact ⟨b, cur, e, hge, (hg.block b (lt_of_block hh) (fun e2 => hne _ had (by rw [← e2, e]))).trans hh, hs⟩⟩
theorem below_marked {w w1 w2 : World} {A : Option Addr} (h : Below w.heap.size w w1) (hg : w1.grownBy w2 (A.map Addr.block)) (hA : ∀ a, A = some a → w.heap.size ≤ a.block) : Below w.heap.size w w2 :=
  h.grown hg h.size fun k hk => by
    cases A with
    | none => cases hk
    | some a => injection hk with hk; rw [← hk]; exact hA a rfl
end Go.Proofs.YtkbclcgdkbhgdaaGreat
namespace Go.Proofs.YtkbclcgdkbhgdaaGreat
open Go.RowKit Go.BigFrame
set_option linter.unusedVariables false

/-- The slice value reads as these lists. -/
structure LstsAt (w : World) (A : Option Addr) (n : Nat) (xss : List (List Int)) : Prop where
  len : xss.length = n
  small : n ≤ 1099511627776
  row : 0 < n → ∃ b off, A = some ⟨b, off, none⟩ ∧ b < w.heap.size ∧ ∀ i xs, xss[i]? = some xs → ∃ B c, w.cell? ⟨b, off + i, none⟩ = some (.slice B xs.length c) ∧ RInts w B xs.length xs
theorem LstsAt.nil {w : World} {A : Option Addr} : LstsAt w A 0 [] := ⟨rfl, by omega, fun h => absurd h (by omega)⟩
theorem LstsAt.below {w w' : World} {A : Option Addr} {n : Nat} {xss : List (List Int)} (h : LstsAt w A n xss) (hb : Below w.heap.size w w') : LstsAt w' A n xss :=
  ⟨h.len, h.small, fun hn => by
    obtain ⟨b, off, e, hlt, hc⟩ := h.row hn
    have hs := hb.size
    refine ⟨b, off, e, by omega, fun i xs hi => ?_⟩
    obtain ⟨B, c, h1, h2⟩ := hc i xs hi
    exact ⟨B, c, (hb.cell (p := ⟨b, off + i, none⟩) hlt).trans h1, h2.below hb (Nat.le_refl _)⟩⟩
theorem LstsAt.get {w : World} {A : Option Addr} {n : Nat} {xss : List (List Int)} (h : LstsAt w A n xss) {k : Nat} (hk : k < n) :
    ∃ b off xs B c, A = some ⟨b, off, none⟩ ∧ b < w.heap.size ∧ xss[k]? = some xs ∧ w.cell? ⟨b, off + k, none⟩ = some (.slice B xs.length c) ∧ RInts w B xs.length xs := by
  obtain ⟨b, off, e, hlt, hc⟩ := h.row (by omega)
  have hx : xss[k]? = some (xss[k]'(by rw [h.len]; exact hk)) := List.getElem?_eq_getElem _
  obtain ⟨B, c, h1, h2⟩ := hc k _ hx
  exact ⟨b, off, _, B, c, e, hlt, hx, h1, h2⟩
theorem OuterR.cells {w0 w : World} {A : Option Addr} {n : Nat} {rv : List Value} (h : OuterR w0 w A n rv) (hn : 0 < n) : ∃ b, A = some ⟨b, 0, none⟩ ∧ w0.heap.size ≤ b ∧ b < w.heap.size ∧ ∀ (i : Nat) (u : Value), rv[i]? = some u → w.cell? ⟨b, 0 + i, none⟩ = some u := by
  obtain ⟨ad, e, hc⟩ := h.1.2.2 hn
  obtain ⟨b, cur, e2, h1, h2⟩ := h.2 ad e
  subst e2
  refine ⟨b, e, h1, lt_of_block h2, fun i u hu => ?_⟩
  have := hc i u hu
  rwa [addr_add] at this
theorem LstsAt.of {w0 w : World} {A : Option Addr} {n : Nat} {rv : List Value} {xss : List (List Int)} (ho : OuterR w0 w A n rv) (hr : RowsR w0 w rv xss) (hl : xss.length = n) (hs : n ≤ 1099511627776) : LstsAt w A n xss :=
  ⟨hl, hs, fun hn => by
    obtain ⟨b, e, _, hlt, hc⟩ := ho.cells hn
    refine ⟨b, 0, e, hlt, fun i xs hi => ?_⟩
    obtain ⟨B, c, h1, _, h2⟩ := hr.2 i xs hi
    exact ⟨B, c, hc i _ h1, h2.1⟩⟩


/-- The lengths of the first i lists. -/
def totL (xss : List (List Int)) (i : Nat) : Nat := ((xss.take i).map List.length).sum
theorem totL_succ {xss : List (List Int)} {i : Nat} {xs : List Int} (h : xss[i]? = some xs) : totL xss (i + 1) = totL xss i + xs.length := by
  unfold totL; rw [take_snoc h]; simp
theorem totL_le {xss : List (List Int)} (h4 : ∀ xs ∈ xss, xs.length ≤ 4) (i : Nat) : totL xss i ≤ 4 * i := by
  induction i with
  | zero => simp [totL]
  | succ i ih =>
    cases hx : xss[i]? with
    | none =>
      have hl : xss.length ≤ i := by rw [List.getElem?_eq_none_iff] at hx; exact hx
      have : totL xss (i + 1) = totL xss i := by unfold totL; rw [List.take_of_length_le (by omega), List.take_of_length_le hl]
      omega
    | some xs =>
      have := h4 xs (List.mem_of_getElem? hx)
      rw [totL_succ hx]; omega

/-- Rows that have been marked up to k. -/
structure MkInv (w0 w : World) (b n : Nat) (rv : List Value) (xss : List (List Int)) (k0 : Int) (k : Nat) (wr : World) : Prop where
  below : Below w0.heap.size w wr
  outer : wr.heap[b]? = w.heap[b]?
  marked : ∀ i xs, i < k → xss[i]? = some xs → ∃ B c, rv[i]? = some (.slice B xs.length c) ∧ RInts wr B xs.length (mkInts (k0 + totL xss i) xs.length)
  rest : ∀ i xs, k ≤ i → xss[i]? = some xs → ∃ B c, rv[i]? = some (.slice B xs.length c) ∧ FreshInts w0 wr B xs.length xs
/-- What the marks leave: the rows hold them. -/
def MarkedLists (w0 w : World) (A : Option Addr) (n : Nat) (xss : List (List Int)) (k0 : Int) (e : Ending) (w' : World) : Prop :=
  e = .returned (.int .i64 (k0 + totL xss n)) ∧ Below w0.heap.size w w' ∧ (0 < n → ∃ b, A = some ⟨b, 0, none⟩ ∧ b < w'.heap.size ∧ ∀ i xs, xss[i]? = some xs → ∃ B c, w'.cell? ⟨b, 0 + i, none⟩ = some (.slice B xs.length c) ∧ RInts w' B xs.length (mkInts (k0 + totL xss i) xs.length))

theorem RInts.kept2 {V W : World} {A : Option Addr} {n : Nat} {xs : List Int} (h : RInts V A n xs) (hs : V.heap.size ≤ W.heap.size) (hA : ∀ ad, A = some ad → ad.block < V.heap.size → W.heap[ad.block]? = V.heap[ad.block]?) : RInts W A n xs := by
  refine ⟨h.1, h.2.1, fun hn => ?_⟩
  obtain ⟨b, off, hA', hl, hc⟩ := h.2.2 hn
  have hk := hA _ hA' hl
  exact ⟨b, off, hA', by omega, fun i x hx => (World.cell?_of_block (w := V) (a := ⟨b, off + i, none⟩) hk).trans (hc i x hx)⟩
theorem MkInv.step {w0 w : World} (h00 : w0.heap.size ≤ w.heap.size) {b n : Nat} {rv : List Value} {xss : List (List Int)} {k0 : Int} {k : Nat} {wr w2 : World} {B : Option Addr} {c : Nat} {xs : List Int} (hap : ApartR rv) (h : MkInv w0 w b n rv xss k0 k wr) (hx : xss[k]? = some xs) (hrv : rv[k]? = some (.slice B xs.length c))
    (hf : FreshInts w0 wr B xs.length xs) (hbt : ∃ cur, wr.heap[b]? = some (.cells cur 32 (0, 0))) (hm : RInts w2 B xs.length (mkInts (k0 + totL xss k) xs.length)) (hg : wr.grownBy w2 (B.map Addr.block)) : MkInv w0 w b n rv xss k0 (k + 1) w2 := by
  obtain ⟨h1, h2, h3, h4⟩ := h
  have hs := World.grownBy.size hg
  have hBb : ∀ ad, B = some ad → w0.heap.size ≤ ad.block ∧ ∃ cur, wr.heap[ad.block]? = some (.cells cur 3 (0, 0)) := fun ad had => by
    obtain ⟨g, cur, e, e1, e2, _⟩ := hf.2 ad had
    rw [e]; exact ⟨e1, cur, e2⟩
  have hgrow : ∀ j, (B.map Addr.block) = some j → w0.heap.size ≤ j := fun j hj => by
    cases hB : B with
    | none => rw [hB] at hj; cases hj
    | some ad => rw [hB] at hj; injection hj with hj; have := (hBb ad hB).1; rw [← hj]; exact this
  have other : ∀ i D m d, i ≠ k → rv[i]? = some (.slice D m d) → ∀ ad, D = some ad → some ad.block ≠ B.map Addr.block := by
    intro i D m d hik hi ad had e
    subst had
    cases hB : B with
    | none => rw [hB] at e; cases e
    | some bd =>
      rw [hB] at e
      injection e with e
      rw [hB] at hrv
      exact hap i k ad bd _ _ _ _ hik hi hrv e
  refine ⟨h1.trans ?_, ?_, fun i ys hi hy => ?_, fun i ys hi hy => ?_⟩
  · exact (Below.refl _ wr).grown hg (by have := h1.size; omega) (fun j hj => hgrow j hj)
  · obtain ⟨cur, hcur⟩ := hbt
    refine (hg.block b (lt_of_block hcur) fun e => ?_).trans h2
    cases hB : B with
    | none => rw [hB] at e; cases e
    | some ad =>
      rw [hB] at e
      injection e with e
      obtain ⟨_, cur2, hc2⟩ := hBb ad hB
      rw [← e, hcur] at hc2
      injection hc2 with hc2
      injection hc2 with _ ht _
      exact absurd ht (by decide)
  · rcases Nat.lt_or_ge i k with hik | hik
    · obtain ⟨D, d, e1, e2⟩ := h3 i ys hik hy
      refine ⟨D, d, e1, e2.kept2 hs fun ad had hb => ?_⟩
      exact hg.block _ hb (other i D _ d (by omega) e1 ad had)
    · obtain rfl : i = k := by omega
      rw [hx] at hy
      injection hy with hy
      subst hy
      exact ⟨B, c, hrv, hm⟩
  · obtain ⟨D, d, e1, e2⟩ := h4 i ys (by omega) hy
    refine ⟨D, d, e1, ⟨e2.1.kept2 hs fun ad had hb => ?_, fun ad had => ?_⟩⟩
    · exact hg.block _ hb (other i D _ d (by omega) e1 ad had)
    · obtain ⟨g, cur, e, q1, q2, q3⟩ := e2.2 ad had
      refine ⟨g, cur, e, q1, ?_, q3⟩
      have := other i D _ d (by omega) e1 ad had
      rw [e] at this
      exact (hg.block g (lt_of_block q2) this).trans q2

/-- The rows that hold the marks. -/
def HeldAt_ (w : World) (A : Option Addr) (n : Nat) (xss : List (List Int)) (k0 : Int) : Prop :=
  0 < n → ∃ b, A = some ⟨b, 0, none⟩ ∧ b < w.heap.size ∧ ∀ i xs, xss[i]? = some xs → ∃ B c, w.cell? ⟨b, 0 + i, none⟩ = some (.slice B xs.length c) ∧ RInts w B xs.length (mkInts (k0 + totL xss i) xs.length)
theorem HeldAt_.below {w w' : World} {A : Option Addr} {n : Nat} {xss : List (List Int)} {k0 : Int} (h : HeldAt_ w A n xss k0) (hb : Below w.heap.size w w') : HeldAt_ w' A n xss k0 := fun hn => by
  obtain ⟨b, e, hl, hc⟩ := h hn
  have hs := hb.size
  refine ⟨b, e, by omega, fun i xs hi => ?_⟩
  obtain ⟨B, c, h1, h2⟩ := hc i xs hi
  exact ⟨B, c, (hb.cell (p := ⟨b, 0 + i, none⟩) hl).trans h1, h2.below hb (Nat.le_refl _)⟩

/-- The lists that the call has handed back, made since w0. -/
structure GLists (w0 w : World) (A : Option Addr) (n : Nat) (rv : List Value) (xss : List (List Int)) : Prop where
  outer : OuterR w0 w A n rv
  rows : RowsR w0 w rv xss
theorem GLists.turned {w0 V W : World} {A : Option Addr} {n : Nat} {rv : List Value} {xss : List (List Int)} (h : GLists w0 V A n rv xss) (hs : V.heap.size ≤ W.heap.size) (hk : ∀ g, w0.heap.size ≤ g → g < V.heap.size → W.heap[g]? = V.heap[g]?) : GLists w0 W A n rv xss := by
  have hblk : ∀ ad, A = some ad → ∃ b cur, ad = ⟨b, 0, none⟩ ∧ w0.heap.size ≤ b ∧ V.heap[b]? = some (.cells cur 32 (0, 0)) ∧ W.heap[b]? = V.heap[b]? := fun ad had => by
    obtain ⟨b, cur, e, h1, h2⟩ := h.outer.2 ad had
    exact ⟨b, cur, e, h1, h2, hk b h1 (lt_of_block h2)⟩
  refine ⟨⟨⟨h.outer.1.1, h.outer.1.2.1, fun hn => ?_⟩, fun ad had => ?_⟩, h.rows.turned hs fun g h1 h2 _ => hk g h1 h2⟩
  · obtain ⟨ad, e, hc⟩ := h.outer.1.2.2 hn
    obtain ⟨b, cur, e2, _, _, hkb⟩ := hblk ad e
    subst e2
    refine ⟨_, e, fun j u hu => ?_⟩
    have := hc j u hu
    rw [addr_add] at this ⊢
    exact (World.cell?_of_block (w := V) (a := ⟨b, 0 + j, none⟩) hkb).trans this
  · obtain ⟨b, cur, e, h1, h2, hkb⟩ := hblk ad had
    exact ⟨b, cur, e, h1, hkb.trans h2⟩
theorem GLists.below {w0 w w' : World} {A : Option Addr} {n : Nat} {rv : List Value} {xss : List (List Int)} (h : GLists w0 w A n rv xss) (hb : Below w.heap.size w w') : GLists w0 w' A n rv xss := h.turned hb.size fun g _ hg => hb.block g hg
theorem GLists.marked {w0 w w' : World} {A X : Option Addr} {n : Nat} {rv : List Value} {xss : List (List Int)} (h : GLists w0 w A n rv xss) (hg : w.grownBy w' (X.map Addr.block)) (hX : ∀ a, X = some a → a.block < w0.heap.size) : GLists w0 w' A n rv xss :=
  h.turned (World.grownBy.size hg) fun g h1 h2 => hg.block g h2 fun e => by
    cases hx : X with
    | none => rw [hx] at e; cases e
    | some a => rw [hx] at e; injection e with e; have := hX a hx; omega
theorem GLists.at_ {w0 w : World} {A : Option Addr} {n : Nat} {rv : List Value} {xss : List (List Int)} (h : GLists w0 w A n rv xss) (hl : xss.length = n) (hs : n ≤ 1099511627776) : LstsAt w A n xss := LstsAt.of h.outer h.rows hl hs
end Go.Proofs.YtkbclcgdkbhgdaaGreat
namespace Go.Proofs.YtkbclcgdkbhgdaaGreat
open Go.RowKit Go.BigFrame
set_option linter.unusedVariables false

theorem ordI_bd {L : List Int} {R : List Nat} (h : L.length ≤ 4) : (ordI L R).length ≤ 1024 ∧ ∀ xs ∈ ordI L R, xs.length ≤ 4 := by
  unfold ordI
  refine ⟨Nat.le_trans (List.length_filter_le _ _) (Nat.le_trans (permF_len h _ _) ?_), fun xs hx => ?_⟩
  · have : (4:Nat) ^ L.length ≤ 4 ^ 4 := Nat.pow_le_pow_right (by omega) h
    omega
  · have := permF_length _ _ _ (List.mem_filter.1 hx).1
    simp at this
    omega
theorem ordO_bd {s : List OpV} (h : validS s = true) : (orNil true (ordO s)).length ≤ 1024 ∧ ∀ xs ∈ orNil true (ordO s), xs.length ≤ 4 := ordI_bd (txsOf_len _)
end Go.Proofs.YtkbclcgdkbhgdaaGreat
namespace Go.Proofs.YtkbclcgdkbhgdaaGreat
open Go.RowKit Go.BigFrame
set_option linter.unusedVariables false

section
variable {w : World} {ops : Array Oper} {rest : List Oper} {o : Oper} {a : Act} {Q : Exit → Act → World → Prop}
/-- append of slices. -/
theorem app_rows (s x : Operand) {base : Nat} {v : Value} {n : Nat} {rv : List Value} (hown : w.ownsRow base 32 1 v n rv) (hbase : base ≤ w.heap.size)
    {A : Option Addr} {k c : Nat} {rs : List Value} (hr : Src w 1 A k rs) (hn : n + k ≤ 1099511627776)
    (hgd : o.guard = none) (ho : o.op = .call { callee := .builtin .append, args := #[s, x], argTypes := #[25, 25] }) (hs : a.eval s = v) (hx : a.eval x = .slice A k c)
    (h : ∀ v' w', w'.ownsRow base 32 1 v' (n + k) (rv ++ rs) → w.grownBy w' v.ownBlock → (v'.ownBlock = v.ownBlock ∨ v'.ownBlock = some w.heap.size) → wpList Tryz.prog ops Q rest (a.put o.dst v') w') : wpList Tryz.prog ops Q (o :: rest) a w := by
  obtain ⟨i0, hi, hz0, hz1, hz2⟩ := info_parts intsInfo
  exact wpList_app hgd s x _ ho base _ i0 _ 1 24 Tryz.underlying25 hi hz0 hz1 hz2 rfl (by decide) v n _ hs hown A k c _ hx hr (by simp only [maxLen]; omega) (by omega) hbase h
end

/-- The row that is looked at: nothing so far ends ahead of t's begin. -/
def okRow (s : List OpV) (xs : List Int) (k : Nat) (t : Int) (q : Nat) : Prop := ∀ j u, k < j → j < q → xs[j]? = some u → ¬ lastI s u < firstI s t
def okPre (s : List OpV) (xs : List Int) (k : Nat) : Prop := ∀ i t, i < k → xs[i]? = some t → okRow s xs i t xs.length
theorem okPre_zero {s : List OpV} {xs : List Int} : okPre s xs 0 := fun i t h => by omega
theorem okPre_succ {s : List OpV} {xs : List Int} {k : Nat} {t : Int} (h : okPre s xs k) (ht : xs[k]? = some t) (hr : okRow s xs k t xs.length) : okPre s xs (k + 1) := by
  intro i u hi hu
  by_cases e : i = k
  · subst e; rw [ht] at hu; injection hu with hu; subst hu; exact hr
  · exact h i u (by omega) hu
theorem okRow_zero {s : List OpV} {xs : List Int} {k : Nat} {t : Int} : okRow s xs k t (k + 1 + 0) := fun j u h1 h2 => by omega
theorem okRow_succ {s : List OpV} {xs : List Int} {k q : Nat} {t u : Int} (h : okRow s xs k t (k + 1 + q)) (hu : xs[k + 1 + q]? = some u) (hl : ¬ lastI s u < firstI s t) : okRow s xs k t (k + 1 + (q + 1)) := by
  intro j v h1 h2 hv
  by_cases e : j = k + 1 + q
  · subst e; rw [hu] at hv; injection hv with hv; subst hv; exact hl
  · exact h j v h1 (by omega) hv
theorem okT_of {s : List OpV} {xs : List Int} (h : okPre s xs xs.length) : okT s xs = true := by
  rw [okT_iff, List.pairwise_iff_getElem]
  intro i j hi hj hij
  exact h i _ hi (List.getElem?_eq_getElem hi) j _ hij hj (List.getElem?_eq_getElem hj)
theorem okT_not {s : List OpV} {xs : List Int} {i j : Nat} {t u : Int} (hij : i < j) (ht : xs[i]? = some t) (hu : xs[j]? = some u) (hl : lastI s u < firstI s t) : okT s xs = false := by
  cases h : okT s xs
  · rfl
  · rw [okT_iff, List.pairwise_iff_getElem] at h
    obtain ⟨hi, rfl⟩ := List.getElem?_eq_some_iff.1 ht
    obtain ⟨hj, rfl⟩ := List.getElem?_eq_some_iff.1 hu
    exact absurd hl (h i j hi hj hij)

def tmF (s : List OpV) (xss : List (List Int)) (q : Nat) : List (List Int) := (xss.take q).filter (okT s)
theorem tmF_succ {s : List OpV} {xss : List (List Int)} {q : Nat} {xs : List Int} (h : xss[q]? = some xs) : tmF s xss (q + 1) = tmF s xss q ++ if okT s xs then [xs] else [] := by
  unfold tmF
  rw [take_snoc h, List.filter_append]
  cases hh : okT s xs <;> simp [hh]
theorem tmF_all {s : List OpV} {xss : List (List Int)} : tmF s xss xss.length = xss.filter (okT s) := by unfold tmF; rw [List.take_length]
theorem tmF_len {s : List OpV} {xss : List (List Int)} {q : Nat} : (tmF s xss q).length ≤ xss.length := Nat.le_trans (List.length_filter_le _ _) (by simp; omega)

/-- What lies while the orders are picked. -/
structure TmInv (s : List OpV) (w w2 V : World) (bo : Nat) (rv : List Value) (xss : List (List Int)) (q : Nat) (ov : Value) (wr : World) : Prop where
  below : Below w.heap.size w wr
  sz : V.heap.size ≤ wr.heap.size
  keep : ∀ g, w2.heap.size ≤ g → g < V.heap.size → wr.heap[g]? = V.heap[g]?
  own : ∃ rv', wr.ownsRow w.heap.size 32 1 ov (tmF s xss q).length rv' ∧ RowsR w2 V rv' (tmF s xss q) ∧ ApartR rv' ∧ ∀ (i : Nat) (a : Addr) (m d : Nat), rv'[i]? = some (Value.slice (some a) m d) → ∃ j, j < q ∧ rv[j]? = some (Value.slice (some a) m d)
  blk : ∀ g, ov.ownBlock = some g → g = bo ∨ V.heap.size ≤ g
theorem TmInv.later {s : List OpV} {w w2 V : World} {bo : Nat} {rv : List Value} {xss : List (List Int)} {q : Nat} {ov : Value} {wr W : World} (h : TmInv s w w2 V bo rv xss q ov wr) (hb : Below wr.heap.size wr W) : TmInv s w w2 V bo rv xss q ov W := by
  obtain ⟨h1, h2, h3, ⟨rv', h4, h5⟩, h6⟩ := h
  exact ⟨h1.trans (hb.mono h1.size), Nat.le_trans h2 hb.size, fun g g1 g2 => (hb.block g (by omega)).trans (h3 g g1 g2), ⟨rv', own_below h4 hb, h5⟩, h6⟩
theorem TmInv.skip {s : List OpV} {w w2 V : World} {bo : Nat} {rv : List Value} {xss : List (List Int)} {q : Nat} {ov : Value} {wr : World} (h : TmInv s w w2 V bo rv xss q ov wr) {xs : List Int} (hx : xss[q]? = some xs) (ho : okT s xs = false) : TmInv s w w2 V bo rv xss (q + 1) ov wr := by
  obtain ⟨h1, h2, h3, ⟨rv', h4, h5, h7, h8⟩, h6⟩ := h
  have e : tmF s xss (q + 1) = tmF s xss q := by rw [tmF_succ hx, ho]; simp
  refine ⟨h1, h2, h3, ⟨rv', by rw [e]; exact h4, by rw [e]; exact h5, h7, fun i a m d hi => ?_⟩, h6⟩
  obtain ⟨j, hj, hr⟩ := h8 i a m d hi
  exact ⟨j, by omega, hr⟩
theorem TmInv.push {s : List OpV} {w w2 V : World} {bo : Nat} {A : Option Addr} {n : Nat} {rv : List Value} {xss : List (List Int)} {q : Nat} {ov : Value} {wr : World} (h : TmInv s w w2 V bo rv xss q ov wr) (hG : GLists w2 V A n rv xss) (hap : ApartR rv) (hbo : bo < w2.heap.size) (hw : w.heap.size ≤ bo) {xs : List Int} (hx : xss[q]? = some xs) (ho : okT s xs = true)
    {B : Option Addr} {m c : Nat} (hm : xs.length = m) (hrv : rv[q]? = some (.slice B m c)) :
    ∃ N rv', N ≤ xss.length ∧ wr.ownsRow w.heap.size 32 1 ov N rv' ∧ w.heap.size ≤ wr.heap.size ∧ ∀ (t : TypeId) (v' : Value) (w3 : World), w3.ownsRow w.heap.size 32 1 v' (N + 1) (rv' ++ [.slice B m c]) → (wr.alloc (.cells #[.slice B m c] t)).grownBy w3 ov.ownBlock →
      (v'.ownBlock = ov.ownBlock ∨ v'.ownBlock = some (wr.alloc (.cells #[.slice B m c] t)).heap.size) → TmInv s w w2 V bo rv xss (q + 1) v' w3 := by
  obtain ⟨h1, h2, h3, ⟨rv', h4, h5, h7, h8⟩, h6⟩ := h
  subst hm
  have e : tmF s xss (q + 1) = tmF s xss q ++ [xs] := by rw [tmF_succ hx, ho]; simp
  refine ⟨_, rv', tmF_len, h4, h1.size, fun t v' w3 hown hg hat => ?_⟩
  have hgs := World.grownBy.size hg
  have hb1 : Below w.heap.size w (wr.alloc (.cells #[.slice B xs.length c] t)) := h1.alloc h1.size _
  have hob : ∀ g, ov.ownBlock = some g → w.heap.size ≤ g := fun g hg' => by
    rcases h6 g hg' with e | e
    · omega
    · have := h1.size
      have hGl := hG.outer
      rcases h4.2 with ⟨e1, _⟩ | ⟨g', cap, cur, e1, e2, _⟩
      · rw [e1] at hg'; cases hg'
      · rw [e1] at hg'
        have : g' = g := by simpa [Value.ownBlock] using hg'
        omega
  obtain ⟨C, d, hC, hcd, hfr⟩ := hG.rows.2 q xs hx
  rw [hrv] at hC
  injection hC with hC
  injection hC with q1 _ q3
  subst q1; subst q3
  refine ⟨hb1.grown hg hb1.size hob, ?_, fun g g1 g2 => ?_, ⟨rv' ++ [.slice B xs.length c], ?_, ?_, ?_, ?_⟩, ?_⟩
  · simp at hgs; omega
  · refine (hg.block g (by simp; omega) (fun e => ?_)).trans ((Below.heap_alloc _ _ _ (by omega)).trans (h3 g g1 g2))
    rcases h6 g (by first | exact e | exact e.symm) with e | e <;> omega
  · rw [e]; simpa using hown
  · rw [e]; exact h5.append (RowsR.lit rfl hcd hfr)
  · refine h7.snoc fun i a m d b hb hi => ?_
    obtain ⟨j, hj, hr⟩ := h8 i a m d hi
    rw [hb] at hrv
    exact hap j q a b _ _ _ _ (by omega) hr hrv
  · intro i a m d hi
    rcases Nat.lt_or_ge i rv'.length with hl | hl
    · rw [List.getElem?_append_left hl] at hi
      obtain ⟨j, hj, hr⟩ := h8 i a m d hi
      exact ⟨j, by omega, hr⟩
    · rw [List.getElem?_append_right hl] at hi
      rcases Nat.eq_zero_or_pos (i - rv'.length) with h0 | h0
      · rw [h0] at hi
        simp only [List.getElem?_cons_zero] at hi
        exact ⟨q, by omega, hrv.trans hi⟩
      · rw [List.getElem?_eq_none (by simp; omega)] at hi; cases hi
  · intro g hg'
    rcases hat with hat | hat
    · exact h6 g (by rw [← hat]; exact hg')
    · rw [hat] at hg'
      injection hg' with hg'
      simp at hg'
      omega
theorem TmInv.done {A : Option Addr} {n : Nat} {s : List OpV} {w w2 V : World} {bo : Nat} {rv : List Value} {xss : List (List Int)} {ov : Value} {wr : World} (h : TmInv s w w2 V bo rv xss xss.length ov wr) (hG : GLists w2 V A n rv xss) (hw2 : w.heap.size ≤ w2.heap.size) :
    ∃ Ao co N, ov = .slice Ao N co ∧ N ≤ co ∧ N ≤ xss.length ∧ RetListsA w (xss.filter (okT s)) (.returned (.slice Ao N N)) wr := by
  obtain ⟨h1, h2, h3, ⟨rv', h4, h5, h7, h8⟩, h6⟩ := h
  obtain ⟨Ao, co, rfl, hco⟩ := own_form2 h4
  have hr : RowsR w2 wr rv' (tmF s xss xss.length) := h5.turned h2 fun g g1 g2 _ => h3 g g1 g2
  refine ⟨Ao, co, _, rfl, hco, tmF_len, ?_⟩
  rw [← tmF_all]
  exact ⟨Ao, _, rv', rfl, Nat.le_refl _, OuterR.of_own h4 (Nat.le_refl _) hr.one, hr.since hw2, h7, h1⟩
end Go.Proofs.YtkbclcgdkbhgdaaGreat
namespace Go.Proofs.YtkbclcgdkbhgdaaGreat
open Go.RowKit Go.BigFrame
set_option linter.unusedVariables false

def pkF (f : List Int → Bool) (xss : List (List Int)) (q : Nat) : List (List Int) := (xss.take q).filter f
theorem pkF_succ {f : List Int → Bool} {xss : List (List Int)} {q : Nat} {xs : List Int} (h : xss[q]? = some xs) : pkF f xss (q + 1) = pkF f xss q ++ if f xs then [xs] else [] := by
  unfold pkF
  rw [take_snoc h, List.filter_append]
  cases hh : f xs <;> simp [hh]
theorem pkF_all {f : List Int → Bool} {xss : List (List Int)} : pkF f xss xss.length = xss.filter f := by unfold pkF; rw [List.take_length]
theorem pkF_len {f : List Int → Bool} {xss : List (List Int)} {q : Nat} : (pkF f xss q).length ≤ xss.length := Nat.le_trans (List.length_filter_le _ _) (by simp; omega)

/-- What lies while the rows are picked: all blocks of V but bo stand; bo is the picked rows' first one. -/
structure PkInv (f : List Int → Bool) (w w2 V : World) (bo : Nat) (xss : List (List Int)) (q : Nat) (ov : Value) (wr : World) : Prop where
  below : Below w.heap.size w wr
  sz : V.heap.size ≤ wr.heap.size
  keep : ∀ g, g < V.heap.size → g ≠ bo → wr.heap[g]? = V.heap[g]?
  own : ∃ rv', wr.ownsRow w.heap.size 32 1 ov (pkF f xss q).length rv' ∧ RowsR w2 V rv' (pkF f xss q)
  blk : ∀ g, ov.ownBlock = some g → g = bo ∨ V.heap.size ≤ g
theorem PkInv.later {f : List Int → Bool} {w w2 V : World} {bo : Nat} {xss : List (List Int)} {q : Nat} {ov : Value} {wr W : World} (h : PkInv f w w2 V bo xss q ov wr) (hb : Below wr.heap.size wr W) : PkInv f w w2 V bo xss q ov W := by
  obtain ⟨h1, h2, h3, ⟨rv', h4, h5⟩, h6⟩ := h
  exact ⟨h1.trans (hb.mono h1.size), Nat.le_trans h2 hb.size, fun g g1 g2 => (hb.block g (by omega)).trans (h3 g g1 g2), ⟨rv', own_below h4 hb, h5⟩, h6⟩
theorem PkInv.skip {f : List Int → Bool} {w w2 V : World} {bo : Nat} {xss : List (List Int)} {q : Nat} {ov : Value} {wr : World} (h : PkInv f w w2 V bo xss q ov wr) {xs : List Int} (hx : xss[q]? = some xs) (ho : f xs = false) : PkInv f w w2 V bo xss (q + 1) ov wr := by
  obtain ⟨h1, h2, h3, ⟨rv', h4, h5⟩, h6⟩ := h
  have e : pkF f xss (q + 1) = pkF f xss q := by rw [pkF_succ hx, ho]; simp
  exact ⟨h1, h2, h3, ⟨rv', by rw [e]; exact h4, by rw [e]; exact h5⟩, h6⟩
theorem PkInv.push {f : List Int → Bool} {w w2 V : World} {bo : Nat} {A : Option Addr} {n : Nat} {rv : List Value} {xss : List (List Int)} {q : Nat} {ov : Value} {wr : World} (h : PkInv f w w2 V bo xss q ov wr) (hG : GLists w2 V A n rv xss) (hbo : bo < w2.heap.size) (hw : w.heap.size ≤ bo) {xs : List Int} (hx : xss[q]? = some xs) (ho : f xs = true)
    {B : Option Addr} {m c : Nat} (hm : xs.length = m) (hrv : rv[q]? = some (.slice B m c)) :
    ∃ N rv', N ≤ xss.length ∧ wr.ownsRow w.heap.size 32 1 ov N rv' ∧ w.heap.size ≤ wr.heap.size ∧ ∀ (t : TypeId) (v' : Value) (w3 : World), w3.ownsRow w.heap.size 32 1 v' (N + 1) (rv' ++ [.slice B m c]) → (wr.alloc (.cells #[.slice B m c] t)).grownBy w3 ov.ownBlock →
      (v'.ownBlock = ov.ownBlock ∨ v'.ownBlock = some (wr.alloc (.cells #[.slice B m c] t)).heap.size) → PkInv f w w2 V bo xss (q + 1) v' w3 := by
  obtain ⟨h1, h2, h3, ⟨rv', h4, h5⟩, h6⟩ := h
  subst hm
  have e : pkF f xss (q + 1) = pkF f xss q ++ [xs] := by rw [pkF_succ hx, ho]; simp
  refine ⟨_, rv', pkF_len, h4, h1.size, fun t v' w3 hown hg hat => ?_⟩
  have hgs := World.grownBy.size hg
  have hb1 : Below w.heap.size w (wr.alloc (.cells #[.slice B xs.length c] t)) := h1.alloc h1.size _
  have hob : ∀ g, ov.ownBlock = some g → w.heap.size ≤ g := fun g hg' => by
    rcases h6 g hg' with e | e
    · omega
    · have := h1.size
      rcases h4.2 with ⟨e1, _⟩ | ⟨g', cap, cur, e1, e2, _⟩
      · rw [e1] at hg'; cases hg'
      · rw [e1] at hg'
        have : g' = g := by simpa [Value.ownBlock] using hg'
        omega
  obtain ⟨C, d, hC, hcd, hfr⟩ := hG.rows.2 q xs hx
  rw [hrv] at hC
  injection hC with hC
  injection hC with q1 _ q3
  subst q1; subst q3
  refine ⟨hb1.grown hg hb1.size hob, ?_, fun g g1 g2 => ?_, ⟨rv' ++ [.slice B xs.length c], ?_, ?_⟩, ?_⟩
  · simp at hgs; omega
  · refine (hg.block g (by simp; omega) (fun e => ?_)).trans ((Below.heap_alloc _ _ _ (by omega)).trans (h3 g g1 g2))
    rcases h6 g (by first | exact e | exact e.symm) with e | e <;> omega
  · rw [e]; simpa using hown
  · rw [e]; exact h5.append (RowsR.lit rfl hcd hfr)
  · intro g hg'
    rcases hat with hat | hat
    · exact h6 g (by rw [← hat]; exact hg')
    · rw [hat] at hg'
      injection hg' with hg'
      simp at hg'
      omega
theorem PkInv.done {f : List Int → Bool} {A : Option Addr} {n : Nat} {w w2 V : World} {bo : Nat} {rv : List Value} {xss : List (List Int)} {ov : Value} {wr : World} (h : PkInv f w w2 V bo xss xss.length ov wr) (hG : GLists w2 V A n rv xss) (hbo : bo < w2.heap.size) (hw2 : w.heap.size ≤ w2.heap.size) :
    ∃ Ao co N, ov = .slice Ao N co ∧ RetLists w (xss.filter f) (.returned (.slice Ao N co)) wr := by
  obtain ⟨h1, h2, h3, ⟨rv', h4, h5⟩, h6⟩ := h
  obtain ⟨Ao, co, rfl, hco⟩ := own_form2 h4
  have hr : RowsR w2 wr rv' (pkF f xss xss.length) := h5.turned h2 fun g g1 g2 _ => h3 g g2 (by omega)
  refine ⟨Ao, co, _, rfl, ?_⟩
  rw [← pkF_all]
  exact ⟨Ao, _, rv', rfl, hco, OuterR.of_own h4 (Nat.le_refl _) hr.one, hr.since hw2, h1⟩
theorem zero_rows {W : World} {b : Nat} (h : W.heap[b]? = some (.cells #[.int .i64 0, .int .i64 0, .int .i64 0, .int .i64 0] 3 (0, 0))) : RInts W (some ⟨b, 0, none⟩) 4 (rowsI noRows) := by
  have hr : RowIs W b 3 (intCells (rowsI noRows)) := h
  exact RowIs.ints (ys := rowsI noRows) (rest := []) (by rw [List.append_nil]; exact hr) rfl (by simp)
theorem run_mk4 (w : World) : (Instr.makeSlice 32 (.int .i64 4) (.int .i64 4)).run Tryz.prog w = .ok (.slice (some ⟨w.heap.size, 0, none⟩) 4 4) (w.alloc (.cells #[.int .i64 0, .int .i64 0, .int .i64 0, .int .i64 0] 3)) := by
  obtain ⟨i0, hi, hz0, hz1, hz2⟩ := info_parts intInfo
  have := run_makeSlice (P := Tryz.prog) (w := w) 32 3 i0 _ Tryz.underlying32 hi hz0 .i64 .i64 4 4 (by decide) (by omega) (by rw [hz1]; omega) (by rw [hz2]; omega) (by omega)
  rw [hz1] at this
  have e : madeCells (Value.int .i64 0).cells (Int.toNat 4 * 1) = #[.int .i64 0, .int .i64 0, .int .i64 0, .int .i64 0] := by first | rfl | decide | kernel_rfl
  rw [e] at this
  exact this
theorem noRows_ok : Rows4 noRows := zero4

theorem top_zero {V Wt : World} {L : Option Addr} {n lc z b : Nat} {LL : List Int} (hl : RInts Wt L n LL) (hz : Wt.heap[z]? = some (.cells #[.int .i64 0, .int .i64 0, .int .i64 0, .int .i64 0] 3 (0, 0))) (hr : ∀ t ∈ LL, 0 ≤ t ∧ t ≤ 3) (h4 : n ≤ 4) (hb : Below V.heap.size V Wt) :
    Calls Tryz.prog 26 #[.slice L n lc, .slice (some ⟨z, 0, none⟩) 4 4, .slice (some ⟨b, 0, none⟩) 0 0] Wt (RetLists V (topF LL noRows n [])) :=
  (top_any n L (some ⟨b, 0, none⟩) (some ⟨z, 0, none⟩) n lc 0 0 4 LL [] noRows Wt ⟨hl, RInts.nil, zero_rows hz⟩ noRows_ok hr h4 (by omega)).mono fun e w' h => RetLists.from hb h
theorem zz1 (w4 : World) : ((w4.alloc (.cells #[.int .i64 0, .int .i64 0, .int .i64 0, .int .i64 0] 3)).alloc (.cells #[] 3)).heap[w4.heap.size]? = some (.cells #[.int .i64 0, .int .i64 0, .int .i64 0, .int .i64 0] 3 (0, 0)) :=
  (Below.heap_alloc _ _ _ (by simp)).trans (heap_alloc_new _ _)
theorem zz2 (w4 : World) : ((w4.alloc (.cells #[] 3)).alloc (.cells #[.int .i64 0, .int .i64 0, .int .i64 0, .int .i64 0] 3)).heap[w4.heap.size + 1]? = some (.cells #[.int .i64 0, .int .i64 0, .int .i64 0, .int .i64 0] 3 (0, 0)) := by
  have h := heap_alloc_new (w4.alloc (.cells #[] 3)) (.cells #[.int .i64 0, .int .i64 0, .int .i64 0, .int .i64 0] 3)
  rw [show (w4.alloc (.cells #[] 3)).heap.size = w4.heap.size + 1 by simp] at h
  exact h
theorem zz0 (w4 : World) : (w4.alloc (.cells #[.int .i64 0, .int .i64 0, .int .i64 0, .int .i64 0] 3)).heap[w4.heap.size]? = some (.cells #[.int .i64 0, .int .i64 0, .int .i64 0, .int .i64 0] 3 (0, 0)) := heap_alloc_new _ _
theorem two_below (w4 : World) (a b : Obj) : Below w4.heap.size w4 ((w4.alloc a).alloc b) := ((Below.refl _ _).alloc (Nat.le_refl _) _).alloc (by simp) _
theorem one_below (w4 : World) (a : Obj) : Below w4.heap.size w4 (w4.alloc a) := (Below.refl _ _).alloc (Nat.le_refl _) _

set_option maxRecDepth 100000 in
set_option maxHeartbeats 2000000 in
theorem sViewOrders_any (A : Option Addr) (n c : Nat) (s : List OpV) (w : World) (hx : ROps w A n s) (hnc : n ≤ c) :
    Calls Tryz.prog 7 #[.slice A n c] w (RetLists w (orNil (validS s) (vwOS s))) := by
  have HX := Lib.hid hx
  clear hx
  go_enter Tryz.func7, Tryz.ntmps7
  go_wp2_with fail
  refine (svalid_any A n c s w HX.out).mono ?_
  rintro e w1 ⟨rfl, hb⟩
  cases hv : validS s
  · have HV := Lib.hid hv
    clear hv
    go_wp2_with fail
    go_ret
    rw [HV.out]
    exact RetLists.nil hb
  have HV := Lib.hid hv
  have HVK : Hid (validS (committed s) = true) := validS_committed hv
  have HC := Lib.hid (scommitted_any A n c s w1 (HX.out.below hb (Nat.le_refl _)))
  have HOO : Hid (vwOS s = (topF (txsOf (committed s)) noRows (txsOf (committed s)).length []).filter fun p => viewB (committed s) (serialI (committed s) p)) := rfl
  have HTL : Hid (∀ p ∈ topF (txsOf (committed s)) noRows (txsOf (committed s)).length [], p.Nodup ∧ p.length ≤ 4) := fun p hp => by
    rw [noRows_top (nodup_txsOf _)] at hp
    have h1 := permF_nodup _ [] (by simp) p hp
    have h2 := permF_length _ _ _ hp
    have := txsOf_len (committed s)
    simp at h2
    exact ⟨h1, by omega⟩
  have HTN : Hid ((topF (txsOf (committed s)) noRows (txsOf (committed s)).length []).length ≤ 256) := by
    refine Nat.le_trans (topF_len (txsOf_len _) _ _) ?_
    exact Nat.pow_le_pow_right (n := 4) (by omega) (txsOf_len _)
  have hL4 : (txsOf (committed s)).length ≤ 4 := txsOf_len _
  have HRL := Lib.hid (txsOf_rng0 (committed s))
  clear hv
  generalize vwOS s = res at *
  generalize committed s = KL at *
  have hK16 : KL.length ≤ 16 := ((validS_iff KL).1 HVK.out).1
  obtain ⟨k, hk⟩ : ∃ k, KL.length = k := ⟨_, rfl⟩
  go_wp2_with fail
  refine HC.out.mono ?_
  rintro e w2 ⟨C, cc, rfl, hcc, hfr0, hb2⟩
  have HCL : Hid (∀ ad, C = some ad → ad.block < w2.heap.size) := FreshOps.blk hfr0
  have hfc := hfr0.1
  clear hfr0
  have hb02 := hb.trans (hb2.mono hb.size)
  rw [hk] at hfc hcc
  obtain ⟨V, hV⟩ : ∃ V, V = w2.alloc (.cells #[] 32) := ⟨_, rfl⟩
  have hbV : Below w2.heap.size w2 V := by rw [hV]; exact (Below.refl _ _).alloc (Nat.le_refl _) _
  have hsV : V.heap.size = w2.heap.size + 1 := by rw [hV]; simp
  have hown0 : V.ownsRow w.heap.size 32 1 (.slice (some ⟨w2.heap.size, 0, none⟩) 0 0) 0 [] := by
    rw [hV]; exact World.ownsRow_made (base := w.heap.size) (e := 32) (size := 1) w2 #[] 0 hb02.size (by decide) rfl
  have hCV := hfc.below hbV (Nat.le_refl _)
  have HT : Hid (∀ W, Below V.heap.size V W → Calls Tryz.prog 27 #[.slice C k cc] W (RetInts W (txsOf KL))) := fun W h => stxs_any C k cc KL W (hCV.below h (Nat.le_refl _))
  have HCV := Lib.hid hCV
  have HOWN := Lib.hid hown0
  have HCB : Hid (∀ p ∈ topF (txsOf KL) noRows (txsOf KL).length [], validS (serialI KL p) = true) := fun p hp => validS_serial HVK.out (HTL.out p hp).1
  generalize txsOf KL = LL at *
  obtain ⟨n4, hn4⟩ : ∃ n4, LL.length = n4 := ⟨_, rfl⟩
  rw [hn4] at HOO HTL HTN hL4 HCB
  have HN4 := Lib.hid hn4
  have HVV := Lib.hid hV
  have HSV := Lib.hid hsV
  clear hsV hfc hV hCV hown0 HC hb2
  have hmk := run_mk4
  go_wp2_with fail
  rw [← HVV.out]
  go_cut [5] from 13 (fun v wx => RetLists V (topF LL noRows n4 []) (.returned v) wx)
  case first =>
    go_region_with (first
      | (go_at_call 27; refine (HT.out _ (by first | exact (Below.refl _ _).drew | exact ((Below.refl _ V).drew).alloc (Nat.le_refl _) _ | exact (((Below.refl _ V).drew).alloc (Nat.le_refl _) _).alloc (by simp <;> omega) _)).mono ?_; rintro e w4 ⟨L, lc, rfl, hlc, ⟨hfl, _⟩, hb4⟩; rw [HN4.out] at hfl; have hbV4 : Below V.heap.size V w4 := Below.trans (by first | exact (Below.refl _ _).drew | exact ((Below.refl _ V).drew).alloc (Nat.le_refl _) _ | exact (((Below.refl _ V).drew).alloc (Nat.le_refl _) _).alloc (by simp <;> omega) _) (hb4.mono (by first | exact Nat.le_refl _ | (simp <;> omega))))
      | (go_at_call 26; refine Calls.mono (top_zero (V := V) (by first | exact hfl | exact hfl.below (one_below _ _) (Nat.le_refl _) | exact hfl.below (two_below _ _ _) (Nat.le_refl _)) (by first | exact zz0 _ | exact zz1 _ | exact zz2 _ | exact (hb4.block _ (by simp <;> omega)).trans (zz0 _) | exact (hb4.block _ (by simp <;> omega)).trans (zz1 _) | exact (hb4.block _ (by simp <;> omega)).trans (zz2 _) | exact (Below.heap_alloc _ _ _ (by have := hb4.size; simp at this; omega)).trans ((hb4.block _ (by simp <;> omega)).trans (zz0 _))) HRL.out hL4 (by first | exact hbV4 | exact hbV4.trans ((one_below _ _).mono hbV4.size) | exact hbV4.trans ((two_below _ _ _).mono hbV4.size))) ?_; intro e w5 hret; obtain ⟨A6, c6, rv, rfl, h2, h3, h4', h6⟩ := hret; have HRT : Hid (RetLists V (topF LL noRows n4 []) (.returned (.slice A6 (topF LL noRows n4 []).length c6)) w5) := ⟨A6, c6, rv, rfl, h2, h3, h4', h6⟩; clear h2 h3 h4' h6))
    all_goals
      go_wp2_with fail
      go_meet
      exact HRT.out
  case rest =>
    obtain ⟨A6, c6, rv, e5, hc6, hou, hro, hbR⟩ := hcut
    injection e5 with e5
    subst e5
    have hsR := hbR.size
    have hsV := HSV.out
    have hbwR := (hb02.trans (hbV.mono hb02.size)).trans (hbR.mono (by have := hb02.size; omega))
    obtain ⟨f, hf⟩ : ∃ f, f = fun p => viewB KL (serialI KL p) := ⟨_, rfl⟩
    have HF : Hid (∀ p, f p = viewB KL (serialI KL p)) := fun p => by rw [hf]
    rw [← hf] at HOO
    have HST : Hid (PkInv f w V wc w2.heap.size (topF LL noRows n4 []) 0 (.slice (some ⟨w2.heap.size, 0, none⟩) 0 0) wc) := by
      refine ⟨hbwR, Nat.le_refl _, fun _ _ _ => rfl, ⟨[], own_below HOWN.out hbR, RowsR.nil⟩, fun g hg => ?_⟩
      simp [Value.ownBlock] at hg; exact .inl hg.symm
    have HG : Hid (GLists V wc A6 (topF LL noRows n4 []).length rv (topF LL noRows n4 [])) := ⟨hou, hro⟩
    have HCW := Lib.hid (HCV.out.below hbR (Nat.le_refl _))
    generalize topF LL noRows n4 [] = xss at *
    obtain ⟨N, hN⟩ : ∃ N, xss.length = N := ⟨_, rfl⟩
    rw [hN] at HG hc6 ⊢
    have HN := Lib.hid hN
    have hN1 : N ≤ 256 := by have := HTN.out; omega
    have hw2 := hb02.size
    clear hf hN hou hro hbR hsV HOWN HT
    go_wp2_with fail
    go_loopw [4, 6] (fun o i wr => ∃ (q : Nat) (ov : Value), q ≤ N ∧ i = .int .i64 q ∧ o = ov ∧ PkInv f w V wc w2.heap.size xss q ov wr) (fun _ i _ => N - (intOf i).toNat)
    case atStart => exact ⟨0, _, Nat.zero_le _, rfl, rfl, HST.out⟩
    case round =>
      clear HST
      obtain ⟨wo, rfl⟩ : ∃ wo : World, wo = wr := ⟨_, rfl⟩
      obtain ⟨q, ov, hq, rfl, hov, hI⟩ := hrel
      have hov2 := hov.symm
      clear hov
      subst hov2
      have HI := Lib.hid hI
      have hV2 := HSV.out
      by_cases hlt : q < N
      · have hGo := HG.out.turned hI.sz fun g h1 h2 => hI.keep g h2 (by omega)
        obtain ⟨bA, rfl, hbA, hbA2, hcell⟩ := hGo.outer.cells (by omega)
        obtain ⟨xs, hxs⟩ : ∃ xs, xss[q]? = some xs := ⟨_, List.getElem?_eq_getElem (by rw [HN.out]; exact hlt)⟩
        obtain ⟨B, d, hrv, hmd, hfr⟩ := hGo.rows.2 q xs hxs
        have hcq := hcell q _ hrv
        rw [Nat.zero_add] at hcq
        have hxr := hfr.1
        obtain ⟨hnd, hm4⟩ := HTL.out xs (List.mem_of_getElem? hxs)
        have hvx := HCB.out xs (List.mem_of_getElem? hxs)
        have hCr : ROps wo C k KL := HCW.out.kept hI.sz fun ad had hlt => hI.keep _ hlt (by have := HCL.out ad had; omega)
        obtain ⟨m, hm⟩ : ∃ m, xs.length = m := ⟨_, rfl⟩
        rw [hm] at hrv hmd hxr hcq hm4
        have HS := Lib.hid (sserial_any C B k cc m d KL xs wo hCr hxr (by omega) (by omega))
        obtain ⟨vb, hvb⟩ : ∃ vb, viewB KL (serialI KL xs) = vb := ⟨_, rfl⟩
        have hfx : f xs = vb := (HF.out xs).trans hvb
        have HVS : Hid (∀ (W' : World) (S : Option Addr) (sc : Nat), Below wo.heap.size wo W' → ROps W' S (serialI KL xs).length (serialI KL xs) → Calls Tryz.prog 28 #[.slice C k cc, .slice S (serialI KL xs).length sc] W' fun e w' => e = .returned (.bool vb) ∧ Below W'.heap.size W' w') := fun W' S sc h h2 => by
          have := sviewSame_any C S k _ cc sc KL (serialI KL xs) W' (hCr.below h (Nat.le_refl _)) h2 HVK.out hvx
          rw [hvb] at this; exact this
        have HPUSH : Hid (vb = true → ∀ W, Below wo.heap.size wo W → ∃ N0 rv', N0 ≤ N ∧ W.ownsRow w.heap.size 32 1 ov N0 rv' ∧ w.heap.size ≤ W.heap.size ∧ ∀ (t : TypeId) (v' : Value) (w3 : World), w3.ownsRow w.heap.size 32 1 v' (N0 + 1) (rv' ++ [.slice B m d]) → (W.alloc (.cells #[.slice B m d] t)).grownBy w3 ov.ownBlock →
            (v'.ownBlock = ov.ownBlock ∨ v'.ownBlock = some (W.alloc (.cells #[.slice B m d] t)).heap.size) → PkInv f w V wc w2.heap.size xss (q + 1) v' w3) := fun ho W hW => by
          have := (HI.out.later hW).push HG.out (by omega) hw2 hxs (hfx.trans ho) hm hrv
          rw [HN.out] at this
          exact this
        have HSKIP : Hid (vb = false → ∀ W, Below wo.heap.size wo W → PkInv f w V wc w2.heap.size xss (q + 1) ov W) := fun ho W hW => (HI.out.skip hxs (hfx.trans ho)).later hW
        generalize serialI KL xs = SX at *
        obtain ⟨sl, hsl⟩ : ∃ sl, SX.length = sl := ⟨_, rfl⟩
        have HSL := Lib.hid hsl
        have hqi : (q : Int) < (N : Int) := by omega
        have hq0 : (0 : Int) ≤ (q : Int) := by omega
        have HCQ := Lib.hid hcq
        clear hI hGo hcell hxs hrv hfr hxr hm hnd hvx hCr hvb hfx
        go_wp2_with fail
        refine HS.out.mono ?_
        rintro e w5 ⟨S, sc, rfl, hsc, hfs, hb5⟩
        have HV5 := Lib.hid (HVS.out w5 S sc hb5 hfs.1)
        have c5 := (hb5.cell (p := ⟨bA, q, none⟩) hbA2).trans hcq
        rw [HSL.out] at HV5
        clear hfs hsc
        go_wp2_with fail
        refine HV5.out.mono ?_
        rintro e w6 ⟨rfl, hb6'⟩
        have hb6 := hb5.trans (hb6'.mono hb5.size)
        have c6' := (hb6.cell (p := ⟨bA, q, none⟩) hbA2).trans HCQ.out
        clear hb5 hb6' c5 hcq
        cases vb
        · have HN2 := Lib.hid (HSKIP.out rfl w6 hb6)
          go_wp2_with fail
          go_roundw
          case rel => exact ⟨q + 1, _, by omega, by go_num, rfl, HN2.out⟩
          case measure => simp [intOf]; omega
        · obtain ⟨N0, rv', hN0, hown, hwz, hnext⟩ := HPUSH.out rfl w6 hb6
          have HNX := Lib.hid hnext
          clear hnext
          go_wp2_with (at_builtin; refine app_rows (.tmp 32) (.tmp 37) (hown.alloc _) (by simp; omega) (Src.one _ (.slice B m d) _ rfl) (by omega) rfl rfl rfl rfl ?_; intro v3 w3 hown3 hg3 hat3)
          have HNN := Lib.hid (HNX.out _ v3 w3 hown3 hg3 hat3)
          clear HNX hown3 hg3 hat3 hown
          go_wp2_with fail
          go_roundw
          case rel => exact ⟨q + 1, _, by omega, by go_num, rfl, HNN.out⟩
          case measure => simp [intOf]; omega
      · obtain rfl : q = N := by omega
        have hI2 := hI
        rw [← HN.out] at hI2
        obtain ⟨Ao, co, N2, rfl, hret⟩ := hI2.done HG.out (by omega) (by omega)
        rw [← HOO.out] at hret
        have HRET := Lib.hid hret
        clear hI hI2 hret HI
        go_wp2_with fail
        go_ret
        rw [HV.out]
        exact HRET.out
end Go.Proofs.YtkbclcgdkbhgdaaGreat
namespace Go.Proofs.YtkbclcgdkbhgdaaGreat
open Go.RowKit Go.BigFrame
set_option linter.unusedVariables false

theorem vwO_eq' {s : List OpV} (h : validS s = true) : vwO s = vwOS s := vwO_eq s
theorem vwO_bd {s : List OpV} (h : validS s = true) : (orNil true (vwO s)).length ≤ 1024 ∧ ∀ xs ∈ orNil true (vwO s), xs.length ≤ 4 := by
  refine ⟨Nat.le_trans (vwL_len _) (by omega), fun xs hx => ?_⟩
  have h1 := permF_length _ _ _ (List.mem_filter.1 hx).1
  have := txsOf_len (committed s)
  simp at h1
  omega
end Go.Proofs.YtkbclcgdkbhgdaaGreat
namespace Go.Proofs.YtkbclcgdkbhgdaaGreat
open Go.RowKit Go.BigFrame
set_option linter.unusedVariables false

theorem permF_pre {list : List Int} (m : Nat) : ∀ pre, ∀ p ∈ permF list m pre, ∃ q, p = pre ++ q := by
  induction m with
  | zero => intro pre p hp; simp only [permF, List.mem_singleton] at hp; exact ⟨[], by rw [hp]; simp⟩
  | succ m ih =>
    intro pre p hp
    simp only [permF, List.mem_flatMap] at hp
    obtain ⟨t, _, h⟩ := hp
    split at h
    · cases h
    · obtain ⟨q, hq⟩ := ih _ p h
      exact ⟨t :: q, by rw [hq]; simp⟩
theorem permF_dist {list : List Int} (hd : list.Nodup) (m : Nat) : ∀ pre, (permF list m pre).Nodup := by
  induction m with
  | zero => intro pre; simp [permF]
  | succ m ih =>
    intro pre
    simp only [permF]
    rw [List.Nodup, List.pairwise_flatMap]
    refine ⟨fun t _ => ?_, ?_⟩
    · split
      · exact List.Pairwise.nil
      · exact ih _
    · refine hd.imp fun {a b} hab x hx y hy e => ?_
      subst e
      split at hx
      · cases hx
      · split at hy
        · cases hy
        · obtain ⟨q, hq⟩ := permF_pre _ _ _ hx
          obtain ⟨r, hr⟩ := permF_pre _ _ _ hy
          rw [hq] at hr
          rw [List.append_assoc, List.append_assoc] at hr
          have := List.append_cancel_left hr
          simp at this
          exact hab this.1
theorem one_of {α : Type} {l : List α} {x : α} (hd : l.Nodup) (hne : l ≠ []) (h : ∀ y ∈ l, y = x) : l = [x] := by
  match l, hd, hne, h with
  | [a], _, _, h => rw [h a (by simp)]
  | a :: b :: r, hd, _, h =>
    exfalso
    rw [List.nodup_cons] at hd
    exact hd.1 (by rw [h a (by simp), h b (by simp)]; simp)
theorem ahead_ser {c : List OpV} (hs : isSer c = true) {t u : Int} (h : stampN c u < stampN c t) : aheadB c u t = true := by
  unfold aheadB
  rw [decide_eq_true_eq]
  refine (ser_sorted hs).imp fun {a b} hab he => ?_
  rw [he.1, he.2] at hab
  omega
theorem ahead_lt {c : List OpV} {t u : Int} (htu : t ≠ u) (ht : ∃ o ∈ c, o.tx = t) (hu : ∃ o ∈ c, o.tx = u) (h : aheadB c t u = true) : stampN c t < stampN c u := by
  obtain ⟨o, ho, rfl⟩ := ht
  obtain ⟨p, hp, rfl⟩ := hu
  obtain ⟨a, ha, hat⟩ := stampN_at ho
  obtain ⟨b, hb, hbt⟩ := stampN_at hp
  unfold aheadB at h
  rw [decide_eq_true_eq, List.pairwise_iff_getElem] at h
  rcases Nat.lt_trichotomy (stampN c o.tx) (stampN c p.tx) with h1 | h1 | h1
  · exact h1
  · rw [h1] at ha; rw [ha] at hb; injection hb with hb; subst hb; exact absurd (hat.symm.trans hbt) htu
  · obtain ⟨i1, e1⟩ := List.getElem?_eq_some_iff.1 ha
    obtain ⟨i2, e2⟩ := List.getElem?_eq_some_iff.1 hb
    have := h _ _ i2 i1 h1
    rw [e1, e2] at this
    exact absurd ⟨hbt, hat⟩ this
theorem time_src {s : List OpV} (hv : validS s = true) (hs : isSer (committed s) = true) : Srcs (txsOf (committed s)) (tmR s) := by
  intro S hne hsub
  obtain ⟨t, ht, hmin⟩ := least_by (fun t => stampN (committed s) t) hne
  refine ⟨t, ht, fun v hv2 => ?_⟩
  cases he : edgeB (tmR s) v t
  · rfl
  · exfalso
    have hmem : ∀ x ∈ S, ∃ o ∈ committed s, o.tx = x := fun x hx => (mem_txsOf (validS_committed hv)).1 (hsub x hx)
    have := hmin v hv2
    rcases (tmR_edge hv (hsub v hv2) (hsub t ht)).1 he with h1 | ⟨h1, h2⟩
    · have h3 := (gr_edge (comm_tx4 hv) (txsOf_rng0 _ v (hsub v hv2)).1 (txsOf_rng0 _ t (hsub t ht)).1).1 h1
      have h4 := h3.serial hs (List.Sublist.refl _)
      omega
    · have := ahead_lt h1 (hmem v hv2) (hmem t ht) h2
      omega
theorem time_serial {s : List OpV} (hv : validS s = true) (hs : isSer (committed s) = true) : timeI s = [stI (committed s)] := by
  have hd := nodup_txsOf (committed s)
  have hvc := validS_committed hv
  refine one_of ?_ ?_ ?_
  · unfold timeI ordO ordI
    exact ((permF_dist hd _ _).filter _).filter _
  · rw [time_eq hv]
    exact topF_ne' hd (time_src hv hs) _ [] (by simp)
  · intro p hp
    unfold timeI at hp
    obtain ⟨hpo, hok⟩ := List.mem_filter.1 hp
    unfold ordO ordI at hpo
    have hpp := (List.mem_filter.1 hpo).1
    obtain ⟨_, hall⟩ := permF_mem hd (txsOf (committed s)).length (pre := []) (by simp) (by simp) (by simp) p hpp
    have hsub : ∀ x ∈ p, x ∈ txsOf (committed s) := fun x hx => by
      rcases permF_sub _ [] p hpp x hx with h | h
      · cases h
      · exact h
    have hpd : p.Nodup := permF_nodup _ [] (by simp) p hpp
    have hmem : ∀ x ∈ p, ∃ o ∈ committed s, o.tx = x := fun x hx => (mem_txsOf hvc).1 (hsub x hx)
    refine srt_unique (f := stampN (committed s)) ?_ (stI_sorted _) fun x => ?_
    · have h1 := okT_iff.1 hok
      rw [List.pairwise_iff_getElem] at h1 ⊢
      intro i j hi hj hij
      have h2 := h1 i j hi hj hij
      have hne : p[i] ≠ p[j] := fun e => by have := nodup_idx hpd hi hj e; omega
      rcases Nat.lt_trichotomy (stampN (committed s) p[i]) (stampN (committed s) p[j]) with h3 | h3 | h3
      · exact h3
      · obtain ⟨a, ha, ea⟩ := hmem _ (List.getElem_mem hi)
        obtain ⟨b, hb, eb⟩ := hmem _ (List.getElem_mem hj)
        rw [← ea, ← eb] at h3
        exact absurd (by rw [← ea, ← eb]; exact stamp_inj ha hb h3) hne
      · exact absurd ((ahead_last hv hne.symm (hsub _ (List.getElem_mem hj)) (hsub _ (List.getElem_mem hi))).1 (ahead_ser hs h3)) h2
    · rw [mem_stI_txs hvc]
      exact ⟨hsub x, hall x⟩
theorem time_sub {s : List OpV} : ∀ xs ∈ timeI s, xs ∈ ordO s := fun xs h => (List.mem_filter.1 h).1

theorem RLists.of {w0 w : World} {A : Option Addr} {n : Nat} {rv : List Value} {xss : List (List Int)} (ho : OuterR w0 w A n rv) (hr : RowsR w0 w rv xss) (hl : xss.length = n) (hs : n ≤ 1099511627776) : RLists w A n xss := by
  refine ⟨hl, hs, fun hn => ?_⟩
  obtain ⟨b, rfl, h1, h2, h3⟩ := ho.cells hn
  refine ⟨b, 0, rfl, h2, fun i xs hi => ?_⟩
  obtain ⟨B, c, e, hc, hf⟩ := hr.2 i xs hi
  exact ⟨B, _, c, h3 i _ e, hc, hf.1⟩

set_option maxRecDepth 100000 in
set_option maxHeartbeats 1000000 in
/-- among, where all are among the others. -/
theorem among_any (A B : Option Addr) (n m c d : Nat) (xss yss : List (List Int)) (w : World) (hx : RLists w A n xss) (hy : RLists w B m yss) (hin : ∀ xs ∈ xss, xs ∈ yss) :
    Calls Tryz.prog 12 #[.slice A n c, .slice B m d] w fun e w' => e = .returned (.bool true) ∧ Below w.heap.size w w' := by
  have hn := hx.2.1
  have HX := Lib.hid hx
  have HY := Lib.hid hy
  have HIN := Lib.hid hin
  clear hx hy hin
  go_enter Tryz.func12, Tryz.ntmps12
  go_wp2_with fail
  go_loopw [5] (fun i wr => ∃ k : Nat, k ≤ n ∧ i = .int .i64 k ∧ Below w.heap.size w wr) (fun i _ => n - (intOf i).toNat)
  case atStart => exact ⟨0, Nat.zero_le _, rfl, Below.refl _ _⟩
  case round =>
    obtain ⟨k, hk, rfl, hb⟩ := hrel
    by_cases hlt : k < n
    · obtain ⟨b, off, xs, C, q, cq, rfl, hbl, ho, c0, hqc, hr⟩ := (HX.out.below hb (Nat.le_refl _)).at_ hlt
      have hcl : Calls Tryz.prog 35 #[.slice B m d, .slice C q cq] wr fun e w' => e = .returned (.bool true) ∧ Below wr.heap.size wr w' := by
        have := holdsList_any B C m q d cq yss xs wr (HY.out.below hb (Nat.le_refl _)) hr
        have e : (yss.any fun ys => ys == xs) = true := List.any_eq_true.2 ⟨xs, HIN.out xs (List.mem_of_getElem? ho), by simp⟩
        rw [e] at this; exact this
      have HC := Lib.hid hcl
      clear ho hcl hr
      go_wp2_with fail
      refine HC.out.mono ?_
      rintro e w1 ⟨rfl, hb1⟩
      have hb2 := hb.trans (hb1.mono hb.size)
      go_wp2_with fail
      go_roundw
      case rel => exact ⟨k + 1, by omega, by go_num, hb2⟩
      case measure => simp [intOf]; omega
    · obtain rfl : k = n := by omega
      go_wp2_with fail
      go_ret
      exact ⟨rfl, hb⟩
end Go.Proofs.YtkbclcgdkbhgdaaGreat
namespace Go.Proofs.YtkbclcgdkbhgdaaGreat
open Go.RowKit Go.BigFrame
set_option linter.unusedVariables false

theorem retL {P : Program} {f : FuncId} {args : Array Value} {w : World} {R R' : Ending → World → Prop} (h : ∀ e w, R e w → R' e w) (hc : Calls P f args w R) : Calls P f args w R' := hc.mono h

set_option maxRecDepth 100000 in
set_option maxHeartbeats 1000000 in
theorem equalLists_any (A B : Option Addr) (n c d : Nat) (xss : List (List Int)) (w : World) (hx : LstsAt w A n xss) (hy : LstsAt w B n xss) :
    Calls Tryz.prog 6 #[.slice A n c, .slice B n d] w fun e w' => e = .returned (.bool true) ∧ Below w.heap.size w w' := by
  have hn := hx.small
  have HX := Lib.hid hx
  have HY := Lib.hid hy
  clear hx hy
  go_enter Tryz.func6, Tryz.ntmps6
  go_wp2_with fail
  go_loopw [5] (fun i wr => ∃ k : Nat, k ≤ n ∧ i = .int .i64 k ∧ Below w.heap.size w wr) (fun i _ => n - (intOf i).toNat)
  case atStart => exact ⟨0, Nat.zero_le _, rfl, Below.refl _ _⟩
  case round =>
    obtain ⟨k, hk, rfl, hb⟩ := hrel
    by_cases hlt : k < n
    · obtain ⟨b, off, xs, C, e, rfl, hbl, ho, c0, hr0⟩ := (HX.out.below hb).get hlt
      obtain ⟨b', off', ys, C', e', rfl, hbl', ho', d0, hr1⟩ := (HY.out.below hb).get hlt
      rw [ho] at ho'
      injection ho' with ho'
      subst ho'
      have L0 := Later.cell c0
      have M0 := Later.cell d0
      have hc : ∀ u : Later wr, Calls Tryz.prog 23 #[.slice C xs.length e, .slice C' xs.length e'] u.1 fun e w' => e = .returned (.bool true) ∧ Below u.1.heap.size u.1 w' := fun u => by
        have := equalInts_any C C' xs.length xs.length e e' xs xs u.1 (hr0.below u.2 (Nat.le_refl _)) (hr1.below u.2 (Nat.le_refl _)); rw [beq_self_eq_true] at this; exact this
      have HC := Lib.hid hc
      have hki : (k : Int) < (n : Int) := by omega
      clear ho c0 d0 hr0 hr1 hc
      generalize xs.length = xl at *
      go_wp2_with fail
      refine region_later (by kernel_rfl) (by kernel_rfl) ?_
      repeat (go_big_quiet_step ((go_at_call 23; exact later_call _ (HC.out _))))
      refine wpQuiet_nil ?_
      rintro _ ⟨u, rfl⟩
      have hbu := hb.trans (u.2.mono hb.size)
      go_wp2_with fail
      go_roundw
      case rel => exact ⟨k + 1, by omega, by go_num, hbu⟩
      case measure => simp [intOf]; omega
    · go_wp2_with fail
      go_ret
      exact ⟨rfl, hb⟩

end Go.Proofs.YtkbclcgdkbhgdaaGreat
namespace Go.Proofs.YtkbclcgdkbhgdaaGreat
open Go.RowKit Go.BigFrame
set_option linter.unusedVariables false

theorem opCells_set (xs : List OpV) : ∀ (i : Nat) (o : OpV), xs[i]? = some o → ∀ v : Int,
    (opCells xs).set (i * 3) (.int .i64 v) = opCells (xs.set i ⟨v, o.kind, o.item⟩) ∧ (opCells xs).set (i * 3 + 1) (.int .i64 v) = opCells (xs.set i ⟨o.tx, v, o.item⟩) ∧
    (opCells xs).set (i * 3 + 2) (.int .i64 v) = opCells (xs.set i ⟨o.tx, o.kind, v⟩) := by
  induction xs with
  | nil => intro i o h; simp at h
  | cons x r ih =>
    intro i o h v
    cases i with
    | zero => simp at h; subst h; simp [opCells]
    | succ i =>
      obtain ⟨h0, h1, h2⟩ := ih i o (by simpa using h) v
      have e : (i + 1) * 3 = i * 3 + 3 := by omega
      refine ⟨?_, ?_, ?_⟩
      · rw [e]; simp [opCells, h0]
      · rw [e]; simp [opCells, h1]
      · rw [e]; simp [opCells, h2]

def BentPost (w0 : World) (rb L n : Nat) (v : Value) (e : Ending) (w : World) : Prop :=
  ∃ (xs : List OpV) (p : Nat), e = .returned v ∧ w.ownsRow L 46 3 v n (opCells xs) ∧ Rd w rb p ∧ p ≤ 80000 ∧ Only rb w0 w

theorem bent_step {w0 w : World} {rb L n p g c : Nat} {xs : List OpV} (hown : w.ownsRow L 46 3 (.slice (some ⟨g, 0, none⟩) n c) n (opCells xs)) (hr : Rd w rb p) (hp : p ≤ 80000) (hO : Only rb w0 w)
    (hL : w0.heap.size ≤ L) (hrb : rb < w0.heap.size) (i : Nat) (hi : i < n) (v : Int) :
    BentPost w0 rb L n (.slice (some ⟨g, 0, none⟩) n c) (.returned (.slice (some ⟨g, 0, none⟩) n c)) (w.setCell ⟨g, i * 3, none⟩ (.int .i64 v)) ∧
    BentPost w0 rb L n (.slice (some ⟨g, 0, none⟩) n c) (.returned (.slice (some ⟨g, 0, none⟩) n c)) (w.setCell ⟨g, i * 3 + 1, none⟩ (.int .i64 v)) ∧
    BentPost w0 rb L n (.slice (some ⟨g, 0, none⟩) n c) (.returned (.slice (some ⟨g, 0, none⟩) n c)) (w.setCell ⟨g, i * 3 + 2, none⟩ (.int .i64 v)) := by
  have hl := hown.1
  rw [length_opCells] at hl
  have e : xs[i]? = some (xs[i]'(by omega)) := List.getElem?_eq_getElem (by omega)
  have hset := opCells_set xs i _ e v
  have hg := World.ownsRow.lt hown g rfl
  have hk : ∀ j, Rd (w.setCell ⟨g, j, none⟩ (.int .i64 v)) rb p ∧ Only rb w0 (w.setCell ⟨g, j, none⟩ (.int .i64 v)) := fun j =>
    ⟨hr.grown (hown.stored j _).2 fun k hk => by injection hk with hk; omega, hO.grown (hown.stored j _).2 fun k hk => by injection hk with hk; omega⟩
  have h0 := (hown.stored (i * 3) (.int .i64 v)).1
  have h1 := (hown.stored (i * 3 + 1) (.int .i64 v)).1
  have h2 := (hown.stored (i * 3 + 2) (.int .i64 v)).1
  rw [hset.1] at h0
  rw [hset.2.1] at h1
  rw [hset.2.2] at h2
  exact ⟨⟨_, p, rfl, h0, (hk _).1, hp, (hk _).2⟩, ⟨_, p, rfl, h1, (hk _).1, hp, (hk _).2⟩, ⟨_, p, rfl, h2, (hk _).1, hp, (hk _).2⟩⟩

theorem own_cells3 {w : World} {L n c g : Nat} {xs : List OpV} (hown : w.ownsRow L 46 3 (.slice (some ⟨g, 0, none⟩) n c) n (opCells xs)) {i : Nat} (hi : i < n) : ∃ o : OpV,
    w.cell? ⟨g, i * 3, none⟩ = some (.int .i64 o.tx) ∧ w.cell? ⟨g, i * 3 + 1, none⟩ = some (.int .i64 o.kind) ∧ w.cell? ⟨g, i * 3 + 2, none⟩ = some (.int .i64 o.item) := by
  have hl := hown.1
  rw [length_opCells] at hl
  have e : xs[i]? = some (xs[i]'(by omega)) := List.getElem?_eq_getElem (by omega)
  obtain ⟨c0, c1, c2⟩ := opCells_at xs i _ e
  exact ⟨_, (hown.cellAt _ (by omega)).trans c0, (hown.cellAt _ (by omega)).trans c1, (hown.cellAt _ (by omega)).trans c2⟩

set_option maxRecDepth 100000 in
set_option maxHeartbeats 2000000 in
theorem bent_any (rb p L n c : Nat) (A : Option Addr) (xs : List OpV) (w0 w : World) (h : Rd w rb p) (hp : p ≤ 70000) (hown : w.ownsRow L 46 3 (.slice A n c) n (opCells xs)) (hn : n ≤ 20) (hO : Only rb w0 w)
    (hL : w0.heap.size ≤ L) (hrb : rb < w0.heap.size) :
    Calls Tryz.prog 37 #[.pointer (some ⟨rb, 0, none⟩), .slice A n c] w (BentPost w0 rb L n (.slice A n c)) := by
  have hsz := hO.size
  go_enter Tryz.func37, Tryz.ntmps37
  go_wp2_with fail
  refine (pick_any rb p 40 w h (by omega) (by omega)).mono ?_
  rintro e w1 ⟨k, rfl, hr1, _, _, ho1⟩
  have hown1 := own_only hown ho1 (by omega)
  have hO1 := hO.trans ho1
  have hend : Hid (BentPost w0 rb L n (.slice A n c) (.returned (.slice A n c)) w1) := ⟨xs, _, rfl, hown1, hr1, by omega, hO1⟩
  by_cases hn0 : 0 < n
  · obtain ⟨g, c', hve, hg1, hg2⟩ := own_block hown1 hn0
    injection hve with hA _ hc
    subst hA; subst hc
    clear hown
    by_cases h0 : k = 0
    · go_wp2_with fail
      refine (pick_any rb _ _ _ hr1 (by omega) (by omega)).mono ?_
      rintro e w2 ⟨i, rfl, hr2, _, hi, ho2⟩
      obtain ⟨hi0, hi1⟩ := hi (by omega)
      obtain ⟨i, rfl⟩ := Int.eq_ofNat_of_zero_le hi0
      have hown2 := own_only hown1 ho2 (by omega)
      have hs2 := ho2.size
      have hlt2 := hr2.lt
      go_wp2_with fail
      refine (one_any rb _ _ _ _ _ _ (hr2.alloc _) (by omega) (lit3 rfl 4 (-1) 2) (by omega) (far_lit hlt2)).mono ?_
      rintro e w3 ⟨v, rfl, _, hr3, ho3⟩
      have hown3 := own_only (hown2.alloc _) ho3 (by omega)
      have hst := (bent_step hown3 hr3 (by omega) (((hO1.trans ho2).alloc _).trans ho3) hL hrb i (by omega) v).2.1
      obtain ⟨o, d0, d1, d2⟩ := own_cells3 hown3 (i := i) (by omega)
      have hf := hown3.frozenAt (i * 3 + 1)
      go_wp2_with fail
      go_ret
      exact hst
    · by_cases h1 : k = 1
      · go_wp2_with fail
        refine (pick_any rb _ _ _ hr1 (by omega) (by omega)).mono ?_
        rintro e w2 ⟨i, rfl, hr2, _, hi, ho2⟩
        obtain ⟨hi0, hi1⟩ := hi (by omega)
        obtain ⟨i, rfl⟩ := Int.eq_ofNat_of_zero_le hi0
        have hown2 := own_only hown1 ho2 (by omega)
        have hs2 := ho2.size
        have hlt2 := hr2.lt
        go_wp2_with fail
        refine (one_any rb _ _ _ _ _ _ (hr2.alloc _) (by omega) (lit3 rfl 4 (-1) 0) (by omega) (far_lit hlt2)).mono ?_
        rintro e w3 ⟨v, rfl, _, hr3, ho3⟩
        have hown3 := own_only (hown2.alloc _) ho3 (by omega)
        have hst := (bent_step hown3 hr3 (by omega) (((hO1.trans ho2).alloc _).trans ho3) hL hrb i (by omega) v).1
        obtain ⟨o, d0, d1, d2⟩ := own_cells3 hown3 (i := i) (by omega)
        have hf := hown3.frozenAt (i * 3)
        go_wp2_with fail
        go_ret
        exact hst
      · by_cases h2 : k = 2
        · go_wp2_with fail
          refine (pick_any rb _ _ _ hr1 (by omega) (by omega)).mono ?_
          rintro e w2 ⟨i, rfl, hr2, _, hi, ho2⟩
          obtain ⟨hi0, hi1⟩ := hi (by omega)
          obtain ⟨i, rfl⟩ := Int.eq_ofNat_of_zero_le hi0
          have hown2 := own_only hown1 ho2 (by omega)
          have hs2 := ho2.size
          have hlt2 := hr2.lt
          go_wp2_with fail
          refine (one_any rb _ _ _ _ _ _ (hr2.alloc _) (by omega) (lit3 rfl 3 (-1) 1) (by omega) (far_lit hlt2)).mono ?_
          rintro e w3 ⟨v, rfl, _, hr3, ho3⟩
          have hown3 := own_only (hown2.alloc _) ho3 (by omega)
          have hst := (bent_step hown3 hr3 (by omega) (((hO1.trans ho2).alloc _).trans ho3) hL hrb i (by omega) v).2.2
          obtain ⟨o, d0, d1, d2⟩ := own_cells3 hown3 (i := i) (by omega)
          have hf := hown3.frozenAt (i * 3 + 2)
          go_wp2_with fail
          go_ret
          exact hst
        · clear hown1 hr1 ho1 hO1
          go_wp2_with fail
          go_ret
          exact hend.out
  · have hn1 : n = 0 := by omega
    subst hn1
    clear hown hown1 hr1 ho1 hO1
    by_cases h0 : k = 0
    · go_wp2_with fail
      go_ret
      exact hend.out
    · by_cases h1 : k = 1
      · go_wp2_with fail
        go_ret
        exact hend.out
      · by_cases h2 : k = 2
        · go_wp2_with fail
          go_ret
          exact hend.out
        · go_wp2_with fail
          go_ret
          exact hend.out

/-- Some operations, at most twenty, in memory of the call's own. -/
def Drawn (w0 : World) (e : Ending) (w : World) : Prop :=
  ∃ (A : Option Addr) (n c : Nat) (xs : List OpV), e = .returned (.slice A n c) ∧ w.ownsRow w0.heap.size 46 3 (.slice A n c) n (opCells xs) ∧ n ≤ 20 ∧ Below w0.heap.size w0 w

def SomeSched (w0 : World) (rb : Nat) (e : Ending) (w : World) : Prop :=
  ∃ (A : Option Addr) (n c p : Nat) (xs : List OpV), e = .returned (.slice A n c) ∧ w.ownsRow w0.heap.size 46 3 (.slice A n c) n (opCells xs) ∧ n ≤ 20 ∧ Rd w rb p ∧ p ≤ 80000 ∧ Only rb w0 w

set_option maxHeartbeats 400000 in
theorem someSchedule_any (rb p : Nat) (w : World) (h : Rd w rb p) (hp : p ≤ 50000) :
    Calls Tryz.prog 14 #[.pointer (some ⟨rb, 0, none⟩)] w (SomeSched w rb) := by
  have hlt := h.lt
  go_enter Tryz.func14, Tryz.ntmps14
  go_wp2_with fail
  refine (goodSchedule_any rb p 16 w h hp (by omega)).mono ?_
  rintro e w1 ⟨v, n, xs, q, rfl, hown, hn, hr, hq, hO⟩
  obtain ⟨A, c, rfl⟩ := own_form hown
  go_wp2_with fail
  refine (bent_any rb q w.heap.size n c A xs w w1 hr (by omega) hown hn hO (Nat.le_refl _) hlt).mono ?_
  rintro e w2 ⟨xs', q', rfl, hown', hr', hq', hO'⟩
  go_wp2_with fail
  go_ret
  exact ⟨A, n, c, q', xs', rfl, hown', hn, hr', hq', hO'⟩

end Go.Proofs.YtkbclcgdkbhgdaaGreat
namespace Go.Proofs.YtkbclcgdkbhgdaaGreat
open Go.RowKit Go.BigFrame
set_option linter.unusedVariables false

set_option maxHeartbeats 400000 in
theorem DrawViewOrders_any (A : Option Addr) (n c : Nat) (w : World) (hx : RBytes w A n) (hc : n ≤ c) :
    Calls Tryz.prog 4 #[.slice A n c] w (Drawn w) := by
  go_enter Tryz.func4, Tryz.ntmps4
  go_wp2_with fail
  refine (newReader_any A n c w hx hc).mono ?_
  rintro e w1 ⟨rb, rfl, hrb, hr, hb⟩
  go_wp2_with fail
  refine (someSchedule_any rb 0 w1 hr (by omega)).mono ?_
  rintro e w2 ⟨A', n', c', p', xs, rfl, hown, hn', _, _, hO⟩
  go_wp2_with fail
  go_ret
  have hs := hb.size
  exact ⟨A', n', c', xs, rfl, own_base hown hs, hn', hb.trans ⟨hO.os, hO.tape, hO.output, hO.size, fun k hk => hO.heap (by omega) (by omega)⟩⟩

end Go.Proofs.YtkbclcgdkbhgdaaGreat
namespace Go.Proofs.YtkbclcgdkbhgdaaGreat
open Go.RowKit Go.BigFrame
set_option linter.unusedVariables false

theorem comm_comm {s : List OpV} (hv : validS s = true) : committed (committed s) = committed s := by
  have hvc := validS_committed hv
  have : ∀ o ∈ committed s, (endOf (committed s) o.tx == 2) = true := fun o ho => by
    rw [beq_iff_eq]
    obtain ⟨h1, h2⟩ := mem_committed.1 ho
    obtain ⟨q, hq, hqt, hqk⟩ := endOf_two h2
    rw [← hqt]
    exact endOf_commit hvc (mem_committed.2 ⟨hq, by rw [hqt]; exact h2⟩) hqk
  show List.filter _ (committed s) = committed s
  rw [List.filter_eq_self]
  exact this
theorem comm_same {a b : List OpV} (ha : committed a = a) (h : SameOps a b) : committed b = b := by
  show List.filter _ b = b
  rw [List.filter_eq_self]
  intro o ho
  have h1 : o ∈ committed a := by rw [ha]; exact h.mem ho
  obtain ⟨_, h2⟩ := mem_committed.1 h1
  rw [beq_iff_eq, ← h.end_ o.tx]
  exact h2

set_option maxRecDepth 100000 in
set_option maxHeartbeats 2000000 in
theorem law_viewOrders (A : Option Addr) (n c : Nat) (w : World) (hin : BytesIn w A n c) :
    Calls Tryz.prog 3 #[.slice A n c] w fun e w' => e = .returned (.bool true) ∧ Below w.heap.size w w' := by
  obtain ⟨hx, hnc⟩ := hin
  have hn := hx.1
  by_cases hbig : 1048576 < n
  · clear hx
    go_enter Tryz.func3, Tryz.ntmps3
    go_wp2_with fail
    go_ret
    exact ⟨rfl, Below.refl _ _⟩
  have HD := Lib.hid (DrawViewOrders_any A n c w hx hnc)
  clear hx
  go_enter Tryz.func3, Tryz.ntmps3
  go_wp2_with fail
  refine HD.out.mono ?_
  rintro e w1 ⟨S, m, d, s, rfl, hown, hm, hb1⟩
  have hmd : m ≤ d := by obtain ⟨A', c', he, h⟩ := own_form2 hown; injection he with _ _ he; omega
  have hR : ∀ W, Below w1.heap.size w1 W → ROps W S m s := fun W h => (ROps.of_own hown (by omega)).below h (Nat.le_refl _)
  obtain ⟨V, hV⟩ : ∃ V, validS s = V := ⟨_, rfl⟩
  obtain ⟨K, hK⟩ : ∃ K, committed s = K := ⟨_, rfl⟩
  obtain ⟨T, hT⟩ : ∃ T, orNil V (vwO s) = T := ⟨_, rfl⟩
  obtain ⟨O, hO⟩ : ∃ O, ordO s = O := ⟨_, rfl⟩
  have hTS : orNil V (vwOS s) = T := by rw [← vwO_eq, hT]
  have c1 : ∀ W : World, Below w1.heap.size w1 W → Calls Tryz.prog 5 #[.slice S m d] W (RetListsA W T) := fun W h => by
    have := ViewOrders_any S m d s W (hR W h) hmd; rw [hV, hT] at this; exact this
  have c2 : ∀ W : World, Below w1.heap.size w1 W → Calls Tryz.prog 7 #[.slice S m d] W (RetLists W T) := fun W h => by
    have := sViewOrders_any S m d s W (hR W h) hmd; rw [hV, hTS] at this; exact this
  have c3 : ∀ W : World, Below w1.heap.size w1 W → Calls Tryz.prog 8 #[.slice S m d] W fun e w' => e = .returned (.bool V) ∧ Below W.heap.size W w' := fun W h => by
    have := ValidSchedule_any S m d s W (hR W h) hmd; rw [hV] at this; exact this
  have c4 : V = true → ∀ W : World, Below w1.heap.size w1 W → Calls Tryz.prog 9 #[.slice S m d] W (RetOps W K) := fun hv W h => by
    have := CommittedOf_any S m d s W (hR W h) hmd; rw [hV, hv, hK] at this; exact this
  have c5 : V = true → ∀ W : World, Below w1.heap.size w1 W → Calls Tryz.prog 13 #[.slice S m d] W (RetListsA W O) := fun hv W h => by
    have := OrdersOf_any S m d s W (hR W h) hmd; rw [hV, hv, hO] at this; exact this
  have hpv : V = true → ∀ xs ∈ T, vordI K xs = true ∧ ViewEq K (serialI K xs) := fun hv xs hx => by
    rw [← hT, hv] at hx
    have hx : xs ∈ vwO s := hx
    unfold vwO vwL at hx
    obtain ⟨h1, h2⟩ := List.mem_filter.1 hx
    rw [← hK]
    exact ⟨perm_vord h1, viewB_iff.1 h2⟩
  have hvk : V = true → validS K = true := fun hv => by rw [← hK]; exact validS_committed (hV.trans hv)
  have hkk : V = true → committed K = K := fun hv => by rw [← hK]; exact comm_comm (hV.trans hv)
  have c6 : V = true → ∀ (W : World) (C B : Option Addr) (k cc p q : Nat) (xs : List Int), xs ∈ T → ROps W C k K → k ≤ cc → RInts W B p xs → (∀ ad, B = some ad → ad.block < W.heap.size) → Calls Tryz.prog 11 #[.slice C k cc, .slice B p q] W (RetOps W (serialI K xs)) := fun hv W C B k cc p q xs hx h1 h2 h3 h4 => by
    have := SerialBy_any C B k cc p q K xs W h1 h2 h3 h4
    rw [hvk hv, (hpv hv xs hx).1] at this
    exact this
  have c7 : V = true → ∀ (W : World) (C X : Option Addr) (k cc l q : Nat) (xs : List Int), xs ∈ T → ROps W C k K → k ≤ cc → ROps W X l (serialI K xs) → l ≤ q → Calls Tryz.prog 10 #[.slice C k cc, .slice X l q] W fun e w' => e = .returned (.bool true) ∧ Below W.heap.size W w' := fun hv W C X k cc l q xs hx h1 h2 h3 h4 => by
    have := IsViewSame_any C X k l cc q K (serialI K xs) W h1 h3 h2 h4
    obtain ⟨hp, hview⟩ := hpv hv xs hx
    have h5 := (vordI_perm hp).nodup_iff.2 (nodup_txsOf K)
    have hso := serial_ops (hvk hv) hp
    rw [hvk hv, validS_serial (hvk hv) h5, hkk hv, comm_same (hkk hv) hso, viewB_iff.2 hview] at this
    exact this
  have h8 : V = true → ∀ xs ∈ O, xs ∈ T := fun hv xs hx => by
    rw [← hT, hv]
    rw [← hO] at hx
    exact ord_view (hV.trans hv) xs hx
  have h9 : V = true → O.length ≤ 1024 := fun hv => by rw [← hO]; exact (ordO_bd (hV.trans hv)).1
  have h10 : T.length ≤ 1024 := by
    rw [← hT]
    cases hv : V
    · simp [orNil]
    · exact (vwO_bd (hV.trans hv)).1
  have C1 := Lib.hid c1
  have C2 := Lib.hid c2
  have C3 := Lib.hid c3
  have C4' := Lib.hid c4
  have C5' := Lib.hid c5
  have C6' := Lib.hid c6
  have C7' := Lib.hid c7
  have H8' := Lib.hid h8
  have H9' := Lib.hid h9
  clear hown HD hR c1 c2 c3 c4 c5 c6 c7 hV hK hT hTS hO hpv hvk hkk h8 h9
  obtain ⟨N, hN⟩ : ∃ N, T.length = N := ⟨_, rfl⟩
  have HN := Lib.hid hN
  have hN1 : N ≤ 1024 := by omega
  clear hN h10
  go_wp2_with fail
  refine (C1.out w1 (Below.refl _ _)).mono ?_
  rintro e w2 ⟨P, pc, rv, rfl, hpc, hou, hro, _, hb2⟩
  rw [HN.out] at hpc hou ⊢
  have HG : Hid (GLists w1 w2 P N rv T) := ⟨hou, hro⟩
  have HP : Hid (LstsAt w2 P N T) := LstsAt.of hou hro HN.out (by omega)
  clear hou hro
  go_wp2_with fail
  refine (C2.out w2 hb2).mono ?_
  rintro e w3 ⟨Y, yc, ry, rfl, hyc, houy, hroy, hb3⟩
  rw [HN.out] at hyc houy ⊢
  have hb13 := hb2.trans (hb3.mono hb2.size)
  have HEQ := Lib.hid (equalLists_any P Y N pc yc T w3 (HP.out.below hb3) (LstsAt.of houy hroy HN.out (by omega)))
  clear houy hroy
  go_wp2_with fail
  refine HEQ.out.mono ?_
  rintro e w4 ⟨rfl, hb4⟩
  have hb24 := hb3.trans (hb4.mono hb3.size)
  have hb14 := hb2.trans (hb24.mono hb2.size)
  have HCV := Lib.hid (C3.out w4 hb14)
  clear HEQ hb3 hb4 hb13
  cases V
  · go_wp2_with fail
    refine HCV.out.mono ?_
    rintro e w5 ⟨rfl, hb5⟩
    have hb25 := hb24.trans (hb5.mono hb24.size)
    have hb15 := hb2.trans (hb25.mono hb2.size)
    go_wp2_with fail
    refine (C2.out w5 hb15).mono ?_
    rintro e w6 ⟨Z, zc, rz, rfl, hzc, houz, hroz, hb6⟩
    rw [HN.out] at hzc houz ⊢
    have hb26 := hb25.trans (hb6.mono hb25.size)
    have HEQ := Lib.hid (equalLists_any P Z N pc zc T w6 (HP.out.below hb26) (LstsAt.of houz hroz HN.out (by omega)))
    clear houz hroz hb6
    go_wp2_with fail
    refine HEQ.out.mono ?_
    rintro e w7 ⟨rfl, hb7⟩
    have hb27 := hb26.trans (hb7.mono hb26.size)
    go_wp2_with fail
    go_ret
    exact ⟨rfl, hb1.trans ((hb2.trans (hb27.mono hb2.size)).mono hb1.size)⟩
  have C4 := Lib.hid (C4'.out (by trivial))
  have C5 := Lib.hid (C5'.out (by trivial))
  have C6 := Lib.hid (C6'.out (by trivial))
  have C7 := Lib.hid (C7'.out (by trivial))
  have H8 := Lib.hid (H8'.out (by trivial))
  have H9 := Lib.hid (H9'.out (by trivial))
  clear C4' C5' C6' C7' H8' H9'
  go_wp2_with fail
  refine HCV.out.mono ?_
  rintro e w5 ⟨rfl, hb5⟩
  have hb25 := hb24.trans (hb5.mono hb24.size)
  have hb15 := hb2.trans (hb25.mono hb2.size)
  clear HCV hb24 hb14 hb5
  go_wp2_with fail
  refine (C4.out w5 hb15).mono ?_
  rintro e w6 ⟨C, cc, rfl, hcc, hfc, hb6⟩
  have HFC := Lib.hid hfc.1
  have hb26 := hb25.trans (hb6.mono hb25.size)
  have hb16 := hb2.trans (hb26.mono hb2.size)
  obtain ⟨k, hk⟩ : ∃ k, K.length = k := ⟨_, rfl⟩
  rw [hk] at hcc HFC ⊢
  have HG6 := Lib.hid (HG.out.below hb26)
  clear hfc hb6 hk hb15 hb25 HG
  go_wp2_with fail
  go_loopw [6] (fun i wr => ∃ q : Nat, q ≤ N ∧ i = .int .i64 q ∧ Below w6.heap.size w6 wr) (fun i _ => N - (intOf i).toNat)
  case atStart => exact ⟨0, Nat.zero_le _, rfl, Below.refl _ _⟩
  case round =>
    obtain ⟨wo, rfl⟩ : ∃ wo : World, wo = wr := ⟨_, rfl⟩
    obtain ⟨i, hi, rfl, hbo⟩ := hrel
    by_cases hlt : i < N
    · have hGo := HG6.out.below hbo
      obtain ⟨bA, rfl, hbA, hbA2, hcell⟩ := hGo.outer.cells (by omega)
      obtain ⟨ys, hys⟩ : ∃ xs, T[i]? = some xs := ⟨_, List.getElem?_eq_getElem (by rw [HN.out]; exact hlt)⟩
      obtain ⟨B, d2, hrv, hmd2, hfr⟩ := hGo.rows.2 i ys hys
      have hcq := hcell i _ hrv
      rw [Nat.zero_add] at hcq
      have hyT := List.mem_of_getElem? hys
      have HSB : Hid (∀ W, Below wo.heap.size wo W → Calls Tryz.prog 11 #[.slice C k cc, .slice B ys.length d2] W (RetOps W (serialI K ys))) := fun W h =>
        C6.out W C B k cc _ d2 ys hyT (HFC.out.below (hbo.trans (h.mono hbo.size)) (Nat.le_refl _)) hcc (hfr.1.below h (Nat.le_refl _)) fun ad had => Nat.lt_of_lt_of_le (FreshInts.blk hfr ad had) h.size
      have HIS : Hid (∀ (W : World) (X : Option Addr) (q : Nat), Below wo.heap.size wo W → ROps W X (serialI K ys).length (serialI K ys) → (serialI K ys).length ≤ q → Calls Tryz.prog 10 #[.slice C k cc, .slice X (serialI K ys).length q] W fun e w' => e = .returned (.bool true) ∧ Below W.heap.size W w') := fun W X q h h2 h3 =>
        C7.out W C X k cc _ q ys hyT (HFC.out.below (hbo.trans (h.mono hbo.size)) (Nat.le_refl _)) hcc h2 h3
      have HFR := Lib.hid hfr.1
      have hii : (i : Int) < (N : Int) := by omega
      have hi0 : (0 : Int) ≤ (i : Int) := by omega
      have cd : wo.drew.cell? ⟨bA, i, none⟩ = some (.slice B ys.length d2) := hcq
      generalize serialI K ys = SX at *
      obtain ⟨yl, hyl⟩ : ∃ yl, ys.length = yl := ⟨_, rfl⟩
      rw [hyl] at hcq HSB
      clear hGo hcell hys hrv hfr hyl cd
      go_wp2_with fail
      refine (HSB.out _ (Below.refl _ _)).mono ?_
      rintro e w7 ⟨X, xc, rfl, hxc, hfx, hb7⟩
      have HIS7 := Lib.hid (HIS.out w7 X xc hb7 hfx.1 hxc)
      clear hfx
      go_wp2_with fail
      refine HIS7.out.mono ?_
      rintro e w8 ⟨rfl, hb8'⟩
      have hb8 := hb7.trans (hb8'.mono hb7.size)
      go_wp2_with fail
      go_roundw
      case rel => exact ⟨i + 1, by omega, by go_num, hbo.trans (hb8.mono hbo.size)⟩
      case measure => simp [intOf]; omega
    · obtain rfl : i = N := by omega
      have hb1o := hb16.trans (hbo.mono hb16.size)
      have HC := Lib.hid (C5.out wo hb1o)
      have HLP := Lib.hid (RLists.of (HG6.out.below hbo).outer (HG6.out.below hbo).rows HN.out (by omega))
      obtain ⟨M, hM⟩ : ∃ M, O.length = M := ⟨_, rfl⟩
      have HM := Lib.hid hM
      have hM1 : M ≤ 1024 := by have := H9.out; omega
      clear hM
      go_wp2_with fail
      refine HC.out.mono ?_
      rintro e w7 ⟨X, xc, rx, rfl, hxc, hox, hrx, _, hb7⟩
      rw [HM.out] at hox hxc ⊢
      have HAM := Lib.hid (among_any X P M i xc pc O T w7 (RLists.of hox hrx HM.out (by omega)) (HLP.out.below hb7 (Nat.le_refl _)) H8.out)
      have hb17 := hb1o.trans (hb7.mono hb1o.size)
      clear hox hrx
      go_wp2_with fail
      refine HAM.out.mono ?_
      rintro e w8 ⟨rfl, hb8⟩
      go_wp2_with fail
      go_ret
      exact ⟨rfl, hb1.trans ((hb17.trans (hb8.mono hb17.size)).mono hb1.size)⟩
end Go.Proofs.YtkbclcgdkbhgdaaGreat
