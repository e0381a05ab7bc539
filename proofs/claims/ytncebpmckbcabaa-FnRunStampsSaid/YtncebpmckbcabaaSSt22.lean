/-
  Texts that the proof rests on, joined: part 22.
-/
import Derived.IntWalk
import Derived.Scope
import Derived.WalkMore
import Derived.Test.YtncebpmckbcabaaSSt14
namespace Go.Proofs.Ytncebpmckbcabaa
open Go.RowKit Go.BigFrame Go.Shelf
set_option linter.unusedVariables false

attribute [local go_sem] Oper.semAt_some

set_option maxHeartbeats 400000 in
theorem ClipO_any (A : Option Addr) (n c : Nat) (w : World) (hn : n ≤ 1099511627776) (hnc : n ≤ c) :
    Calls Try.prog 49 #[.slice A n c] w fun e w' => e = .returned (.slice A n n) ∧ w = w' := by
  go_enter Try.func49, Try.ntmps49
  go_wp2
  go_ret
  exact ⟨rfl, rfl⟩
set_option maxHeartbeats 400000 in
theorem ClipL_any (A : Option Addr) (n c : Nat) (w : World) (hn : n ≤ 1099511627776) (hnc : n ≤ c) :
    Calls Try.prog 154 #[.slice A n c] w fun e w' => e = .returned (.slice A n n) ∧ w = w' := by
  go_enter Try.func154, Try.ntmps154
  go_wp2
  go_ret
  exact ⟨rfl, rfl⟩

section
variable {w : World} {ops : Array Oper} {o : Oper} {a : Act} {K : Act → World → Prop} {Q : Exit → Act → World → Prop} {E : Prop} {l m : Nat}
/-- append of a slice, at a step of a region that draws its order, within a round. -/
theorem stepIn_rows (s x : Operand) {base : Nat} {v : Value} {n : Nat} {rv : List Value} (hown : w.ownsRow base 26 1 v n rv) (hbase : base ≤ w.heap.size)
    {A : Option Addr} {k c : Nat} {rs : List Value} (hr : Src w 1 A k rs) (hn : n + k ≤ 1099511627776)
    (hgd : o.guard = none) (ho : o.op = .call { callee := .builtin .append, args := #[s, x], argTypes := #[55, 55] }) (hs : a.eval s = v) (hx : a.eval x = .slice A k c)
    (h : ∀ v' w', w'.ownsRow base 26 1 v' (n + k) (rv ++ rs) → w.grownBy w' v.ownBlock → (v'.ownBlock = v.ownBlock ∨ v'.ownBlock = some w.heap.size) → K (a.put o.dst v') w') :
    if Region.wanted o (yielded ops a.tmps) = true then Oper.wpIn (Fence.wide.inRound l) m Try.prog o a w K Q else E := by
  have hw : Region.wanted o (yielded ops a.tmps) = true := by simp [Region.wanted, hgd]
  rw [if_pos hw]
  obtain ⟨i0, hi, hz0, hz1, hz2⟩ := info_parts intsInfo
  obtain ⟨v', w', hrun, h2, h3, h4⟩ := run_app (P := Try.prog) base 55 o.type 26 i0 _ 1 24 Try.underlying55 hi hz0 hz1 hz2 rfl (by decide) v n rv hown A k c rs hr (by simp only [maxLen]; omega) (by omega) hbase
  unfold Oper.wpIn
  refine ⟨?_, ?_⟩
  · simp [Oper.about, ho, resolve, Target.leads, Sem.run_pure]
  · rw [Oper.semAt_plain _ _ _ (by rw [ho]; intro c hc'; cases hc')]
    simp [execOp, ho, resolve, invoke, builtin, hs, hx, hrun, Result.andThen]
    exact h v' w' h2 h3 h4
end

theorem orders_start (w : World) (A G : Option Addr) (n c gc : Nat) (wL : World) (hwL : (((w.alloc (.cells #[.slice G 4 gc] 26)).alloc (.cells #[] 26)).alloc (.cells #[.slice (some ⟨w.heap.size + 1, 0, none⟩) 0 0] 55)).alloc (.cells #[.slice A n c] 26) = wL) :
    Below w.heap.size w wL ∧ wL.heap.size = w.heap.size + 4 ∧ wL.cell? ⟨w.heap.size, 0, none⟩ = some (.slice G 4 gc) ∧ wL.cell? ⟨w.heap.size + 2, 0, none⟩ = some (.slice (some ⟨w.heap.size + 1, 0, none⟩) 0 0) ∧
      wL.frozen? ⟨w.heap.size + 2, 0, none⟩ = false ∧ wL.cell? ⟨w.heap.size + 3, 0, none⟩ = some (.slice A n c) ∧ wL.ownsRow w.heap.size 26 1 (.slice (some ⟨w.heap.size + 1, 0, none⟩) 0 0) 0 [] := by
  obtain ⟨w1, h1⟩ : ∃ w1, w.alloc (.cells #[.slice G 4 gc] 26) = w1 := ⟨_, rfl⟩
  rw [h1] at hwL
  obtain ⟨w2, h2⟩ : ∃ w2, w1.alloc (.cells #[] 26) = w2 := ⟨_, rfl⟩
  rw [h2] at hwL
  obtain ⟨w3, h3⟩ : ∃ w3, w2.alloc (.cells #[.slice (some ⟨w.heap.size + 1, 0, none⟩) 0 0] 55) = w3 := ⟨_, rfl⟩
  rw [h3] at hwL
  have s1 : w1.heap.size = w.heap.size + 1 := by rw [← h1]; simp
  have s2 : w2.heap.size = w.heap.size + 2 := by rw [← h2]; simp; omega
  have s3 : w3.heap.size = w.heap.size + 3 := by rw [← h3]; simp; omega
  have s4 : wL.heap.size = w.heap.size + 4 := by rw [← hwL]; simp; omega
  have b3 : Below w3.heap.size w3 wL := by rw [← hwL]; exact (Below.refl _ _).alloc (Nat.le_refl _) _
  have b2 : Below w2.heap.size w2 wL := by
    refine Below.trans ?_ (b3.mono (by omega))
    rw [← h3]; exact (Below.refl _ _).alloc (Nat.le_refl _) _
  have b1 : Below w1.heap.size w1 wL := by
    refine Below.trans ?_ (b2.mono (by omega))
    rw [← h2]; exact (Below.refl _ _).alloc (Nat.le_refl _) _
  have b0 : Below w.heap.size w wL := by
    refine Below.trans ?_ (b1.mono (by omega))
    rw [← h1]; exact (Below.refl _ _).alloc (Nat.le_refl _) _
  have k1 : w1.heap[w.heap.size]? = some (.cells #[.slice G 4 gc] 26 (0, 0)) := by rw [← h1]; exact heap_alloc_new w _
  have k2 : w2.ownsRow w.heap.size 26 1 (.slice (some ⟨w.heap.size + 1, 0, none⟩) 0 0) 0 [] := by
    have := World.ownsRow_made (base := w.heap.size) (e := 26) (size := 1) w1 #[] 0 (by omega) (by decide) rfl
    rw [s1, h2] at this
    exact this
  have k3 : w3.heap[w.heap.size + 2]? = some (.cells #[.slice (some ⟨w.heap.size + 1, 0, none⟩) 0 0] 55 (0, 0)) := by
    have := heap_alloc_new w2 (.cells #[.slice (some ⟨w.heap.size + 1, 0, none⟩) 0 0] 55)
    rw [h3, s2] at this; exact this
  have k4 : wL.heap[w.heap.size + 3]? = some (.cells #[.slice A n c] 26 (0, 0)) := by
    have := heap_alloc_new w3 (.cells #[.slice A n c] 26)
    rw [hwL, s3] at this; exact this
  have k1' := (b1.block _ (by omega)).trans k1
  have k3' := (b3.block _ (by omega)).trans k3
  refine ⟨b0, s4, ?_, ?_, ?_, ?_, own_below k2 b2⟩
  · rw [cell_of_row _ _ _ _ _ _ k1']; rfl
  · rw [cell_of_row _ _ _ _ _ _ k3']; rfl
  · simp [World.frozen?, k3']
  · rw [cell_of_row _ _ _ _ _ _ k4]; rfl

theorem Src.one (w : World) (u : Value) (t : TypeId) (h1 : u.oneCell' = true) : Src (w.alloc (.cells #[u] t)) 1 (some ⟨w.heap.size, 0, none⟩) 1 [u] :=
  ⟨rfl, by simp [h1], fun _ => ⟨_, rfl, fun j v hv => cell_one_new w u t j v hv⟩⟩

set_option maxRecDepth 100000 in
set_option maxHeartbeats 2000000 in
theorem ordersBy_any (A G : Option Addr) (n c gc : Nat) (list : List Int) (R : List Nat) (w : World) (hl : RInts w A n list) (hA : ∀ ad, A = some ad → ad.block < w.heap.size) (hg : RInts w G 4 (rowsI R)) (h4 : Rows4 R) (hr : ∀ t ∈ list, 0 ≤ t ∧ t ≤ 3) (hn4 : n ≤ 4) :
    Calls Try.prog 120 #[.slice A n c, .slice G 4 gc] w (RetListsA w (ordI list R)) := by
  have hlen := hl.1
  have HL := Lib.hid hl
  have HG := Lib.hid hg
  have H4 := Lib.hid h4
  have HR := Lib.hid hr
  have HA := Lib.hid hA
  have HLEN := Lib.hid hlen
  clear hl hg h4 hr hA hlen
  refine (callsIn_wide (n := 9)).1 ?_
  refine callsIn_of_wp_marks Try.func120 rfl trivial ?_ rfl
  simp only [Try.ntmps120, List.size_toArray, List.length_cons, List.length_nil, Nat.reduceAdd, Nat.reduceSub, Array.replicate_succ, Array.replicate_zero, List.push_toArray, List.append_toArray, List.nil_append, List.cons_append]
  gi_wp2
  refine (wpIn_wide (n := 9)).2 (wp_scope_straight ((wpIn_wide (n := 9)).1 ?_))
  gi_wp2
  refine wpIn_label ?_
  gi_wp2_with (refine ⟨trivial, ?_⟩; gi_at_call 153; refine (callsIn_wide.2 (permutations_any A n c _)).mono ?_; rintro e w' ⟨rfl, rfl⟩)
  -- the world where the loop begins
  obtain ⟨wL, hwL⟩ : ∃ wL, (((w.alloc (.cells #[.slice G 4 gc] 26)).alloc (.cells #[] 26)).alloc (.cells #[.slice (some ⟨w.heap.size + 1, 0, none⟩) 0 0] 55)).alloc (.cells #[.slice A n c] 26) = wL := ⟨_, rfl⟩
  have hfacts : Below w.heap.size w wL ∧ wL.heap.size = w.heap.size + 4 ∧ wL.cell? ⟨w.heap.size, 0, none⟩ = some (.slice G 4 gc) ∧ wL.cell? ⟨w.heap.size + 2, 0, none⟩ = some (.slice (some ⟨w.heap.size + 1, 0, none⟩) 0 0) ∧
      wL.frozen? ⟨w.heap.size + 2, 0, none⟩ = false ∧ wL.cell? ⟨w.heap.size + 3, 0, none⟩ = some (.slice A n c) ∧ wL.ownsRow w.heap.size 26 1 (.slice (some ⟨w.heap.size + 1, 0, none⟩) 0 0) 0 [] := orders_start w A G n c gc wL hwL
  rw [hwL]
  clear hwL
  obtain ⟨hbL, hsL, cg, co, fo, cl, hoL⟩ := hfacts
  have hS : w.heap.size + 2 < wL.heap.size := by omega
  refine wpIn_rangePerm (w.heap.size + 3) w.heap.size n c A list rfl rfl cl (HL.out.below hbL (Nat.le_refl _)) HA.out (by omega) hn4
    (fun acc V => OutInv w wL (w.heap.size + 2) (w.heap.size + 1) (acc.filter (accB R [])) V ∧ V.cell? ⟨w.heap.size, 0, none⟩ = some (.slice G 4 gc)) ?hI ⟨OutInv.start hbL co fo hoL, cg⟩
    (fun v => { tmps := #[.slice A n c, .slice G 4 gc, undef, .pointer (some ⟨w.heap.size, 0, none⟩), .slice none 0 0, .pointer (some ⟨w.heap.size + 1 + 1, 0, none⟩), v, undef, undef, undef, .slice (some ⟨w.heap.size + 1, 0, none⟩) 0 0, .slice A n c, .func (.func 174) #[] #[.pointer (some ⟨w.heap.size + 3, 0, none⟩)], v, undef, undef, undef, undef, undef, undef, undef, undef, undef, undef, undef, undef, undef, undef, undef, undef, undef, undef, undef, undef, undef, undef, undef, undef, undef], defers := [] }) ?assign ?body ?done
  case hI =>
    rintro s V W ⟨h1, h2⟩ hst
    exact ⟨h1.step (by omega) (by omega) (by omega) hst, (World.cell?_of_block (w := V) (a := ⟨w.heap.size, 0, none⟩) (hst.block _ (block_lt_of_cell h2) (by simp; omega))).trans h2⟩
  case assign =>
    intro l m v W K hK
    gi_wp2
    exact hK
  case done =>
    rintro W ⟨hO, _⟩ hsz hdf
    have hO2 := hO.step (by omega) (by omega) (by omega) (LpStep.put W (l := wL.heap.size) (.deferred none) (by omega))
    obtain ⟨hb, hf, ov, rv, hc, hown, hrows, hapr, hgo⟩ := hO
    obtain ⟨Ao, co', rfl, hco⟩ := own_form2 hown
    have HRET : Hid (RetListsA w ((permF list n []).filter (accB R [])) (.returned (.slice Ao ((permF list n []).filter (accB R [])).length ((permF list n []).filter (accB R [])).length)) (W.putObj wL.heap.size (.deferred none))) := by
      obtain ⟨hb2, _, ov2, rv2, hc2, hown2, hrows2, hap2, _⟩ := hO2
      have ek : (W.putObj wL.heap.size (.deferred none)).cell? ⟨w.heap.size + 2, 0, none⟩ = W.cell? ⟨w.heap.size + 2, 0, none⟩ := World.cell?_of_block (w := W) (World.putObj_heap_other (by simp; omega))
      rw [ek, hc] at hc2
      injection hc2 with hc2
      subst hc2
      exact ⟨Ao, _, rv2, rfl, Nat.le_refl _, OuterR.of_own hown2 (Nat.le_refl _) hrows2.one, hrows2.since (by rw [six_size]; omega), hap2, hb2⟩
    have hN : ((permF list n []).filter (accB R [])).length ≤ 256 := by
      refine Nat.le_trans (List.length_filter_le _ _) (Nat.le_trans (permF_len (by rw [HLEN.out]; exact hn4) n []) ?_)
      exact Nat.pow_le_pow_right (by omega) hn4
    have HOR : Hid (ordI list R = (permF list n []).filter (accB R [])) := by show _ = _; unfold ordI; rw [HLEN.out]
    generalize (permF list n []).filter (accB R []) = res at *
    generalize res.length = N at *
    clear hO2 hown hrows hgo hb hapr
    gi_wp2_with (refine ⟨trivial, ?_⟩; gi_at_call 154; refine (callsIn_wide.2 (ClipL_any Ao N co' _ (by omega) hco)).mono ?_; rintro e w' ⟨rfl, rfl⟩)
    rw [Exit.noGoto_ret]
    rw [hsL] at hdf HRET
    refine ⟨by simp, .inl ⟨_, _, rfl, run_takeDeferred hdf, ?_⟩⟩
    exact ⟨_, results_tmp rfl _ _ _, by rw [HOR.out]; exact HRET.out⟩
  case body =>
    rintro l m pre x V W A' c' ⟨hOV, hgV⟩ hstV hloV hfV hc' hpx
    have hO : OutInv w wL (w.heap.size + 2) (w.heap.size + 1) (pre.filter (accB R [])) W := hOV.step (by omega) (by omega) (by omega) hstV
    have hgc : W.cell? ⟨w.heap.size, 0, none⟩ = some (.slice G 4 gc) := (World.cell?_of_block (w := V) (a := ⟨w.heap.size, 0, none⟩) (hstV.block _ (block_lt_of_cell hgV) (by simp; omega))).trans hgV
    have hlo : wL.heap.size + 6 ≤ W.heap.size := by have := hstV.size; omega
    have hfx : FreshInts (six wL) W A' n x := hfV.since (by rw [six_size]; omega)
    have HOP := Lib.hid (hOV.open_ (by omega) (by omega) (by omega) hstV)
    have HFV := Lib.hid hfV
    clear hOV hgV hstV hloV hfV
    have hxm : x ∈ permF list n [] := List.IsPrefix.subset hpx (by simp)
    have hxl : x.length = n := by have := permF_length n [] x hxm; simpa using this
    have hxr : ∀ t ∈ x, 0 ≤ t ∧ t ≤ 3 := fun t ht => by
      rcases permF_sub n [] x hxm t ht with h | h
      · cases h
      · exact HR.out t h
    have hpl : (pre.filter (accB R [])).length + 1 ≤ 256 := by
      have h1 := hpx.length_le
      have h2 := permF_len (list := list) (by rw [HLEN.out]; exact hn4) n []
      have h3 : (4:Nat) ^ n ≤ 256 := Nat.pow_le_pow_right (by omega) hn4
      have h4 := List.length_filter_le (accB R []) pre
      simp at h1
      omega
    have HX := Lib.hid hfx
    have HO := Lib.hid hO
    have HXR := Lib.hid hxr
    have HXL := Lib.hid hxl
    have HGW : Hid (RInts W G 4 (rowsI R)) := HG.out.below hO.below (Nat.le_refl _)
    have HF1 : Hid (accB R [] x = true → (pre ++ [x]).filter (accB R []) = pre.filter (accB R []) ++ [x]) := fun h => by rw [List.filter_append, List.filter_cons, if_pos h, List.filter_nil]
    have HF0 : Hid (accB R [] x = false → (pre ++ [x]).filter (accB R []) = pre.filter (accB R [])) := fun h => by rw [List.filter_append, List.filter_cons, if_neg (by rw [h]; simp), List.filter_nil, List.append_nil]
    clear hO hfx hpx hxm hxr hxl
    gi_wp2
    gi_loopw [7, 16] (fun g i wr => ∃ k : Nat, k ≤ n ∧ i = .int .i64 k ∧ g = .int .i64 (goneN (x.take k) : Nat) ∧ accB R [] (x.take k) = true ∧ wr = W) (fun _ i _ => n - (intOf i).toNat)
    case atStart => exact ⟨0, Nat.zero_le _, rfl, by simp [goneN], by simp [accB], rfl⟩
    case round =>
      obtain ⟨k, hk, rfl, rfl, hacc, rfl⟩ := hrel
      have HACC := Lib.hid hacc
      clear hacc
      by_cases hlt : k < n
      · obtain ⟨b, off, t, rfl, hbl, ho, ct⟩ := HX.out.1.at_ hlt
        have htr := HXR.out t (List.mem_of_getElem? ho)
        have hg16 : goneN (x.take k) < 16 := goneN_lt fun u hu => HXR.out u (List.mem_of_mem_take hu)
        have HGO : Hid (goneN (x.take (k + 1)) = goneN (x.take k) ||| 1 <<< t.toNat) := gone_take ho
        have HNO : Hid (¬ (R.getD t.toNat 0 &&& goneN (x.take k) = 0) → accB R [] x = false) := acc_no ho
        have HYES : Hid (R.getD t.toNat 0 &&& goneN (x.take k) = 0 → accB R [] (x.take (k + 1)) = true) := fun h => acc_go ho HACC.out h
        clear ho HACC
        generalize goneN (x.take k) = g at *
        obtain ⟨tn, rfl⟩ := Int.eq_ofNat_of_zero_le htr.1
        have htn : tn < 4 := by omega
        obtain ⟨bg, offg, rfl, hbg, cgr, hr16⟩ := rowsI_at3 H4.out HGW.out htn
        simp only [Int.toNat_natCast] at HNO HYES HGO
        generalize R.getD tn 0 = r at *
        have hand := and_nat r g (by omega) (by omega)
        obtain ⟨v, hv⟩ : ∃ v, r &&& g = v := ⟨_, rfl⟩
        rw [hv] at hand HNO HYES
        have l1 : (tn : Int) < 4 := by omega
        have l2 : (0 : Int) ≤ (tn : Int) := by omega
        have l3 : (k : Int) < n := by omega
        have l4 : (0 : Int) ≤ (k : Int) := by omega
        clear hv
        by_cases hv0 : v = 0
        · subst hv0
          have HY := Lib.hid (HYES.out rfl)
          have e1 : bits .or .i64 (g : Int) 1 = ((g ||| 1 : Nat) : Int) := or_nat g 1 (by omega) (by omega)
          have e2 : bits .or .i64 (g : Int) 2 = ((g ||| 2 : Nat) : Int) := or_nat g 2 (by omega) (by omega)
          have e4 : bits .or .i64 (g : Int) 4 = ((g ||| 4 : Nat) : Int) := or_nat g 4 (by omega) (by omega)
          have e8 : bits .or .i64 (g : Int) 8 = ((g ||| 8 : Nat) : Int) := or_nat g 8 (by omega) (by omega)
          clear HYES HNO
          rcases (by omega : tn = 0 ∨ tn = 1 ∨ tn = 2 ∨ tn = 3) with rfl | rfl | rfl | rfl
          all_goals
            try simp only [Nat.add_zero] at cgr
            gi_wp2
            go_roundw
            case rel => exact ⟨k + 1, by omega, by go_num, by rw [HGO.out]; rfl, HY.out, by first | rfl | trivial⟩
            case measure => simp [intOf]; omega
        · have hvn : ((v : Int) != 0) = true := by simp; omega
          have HN := Lib.hid (HNO.out hv0)
          clear HYES HNO
          gi_wp2
          refine ⟨BdKeep.of_below (Below.refl _ _), ?_, hgc⟩
          show OutInv _ _ _ _ ((pre ++ [x]).filter (accB R [])) _
          rw [HF0.out HN.out]
          exact HO.out
      · obtain rfl : k = n := by omega
        have hacx : accB R [] x = true := by
          have := HACC.out
          rwa [List.take_of_length_le (by rw [HXL.out]; exact Nat.le_refl _)] at this
        have HF := Lib.hid (HF1.out hacx)
        obtain ⟨hb, hf, ov, rv, hc, hown, hrows, hapr, hgo, hblk⟩ := HOP.out
        obtain ⟨Ao, co', rfl, hco⟩ := own_form2 hown
        have HAPR : Hid (ApartR (rv ++ [.slice A' k k])) := hapr.snoc fun i a m d b hAb hi => by
          obtain ⟨b', cur, e1, e2, _, _⟩ := HFV.out.2 b hAb
          have := hblk i a m d hi
          rw [e1]; simp only; omega
        have hcA : (wr.alloc (.cells #[.slice A' k k] 26)).drew.cell? ⟨w.heap.size + 2, 0, none⟩ = some (.slice Ao (pre.filter (accB R [])).length co') := (((Below.refl _ wr).alloc (Nat.le_refl _) (.cells #[.slice A' k k] 26)).drew.cell (p := ⟨w.heap.size + 2, 0, none⟩) (block_lt_of_cell hc)).trans hc
        have hbA : Below wr.heap.size wr (wr.alloc (.cells #[.slice A' k k] 26)).drew := ((Below.refl _ wr).alloc (Nat.le_refl _) _).drew
        have HBA := Lib.hid hbA
        have HOWN := Lib.hid hown
        have HOWA := Lib.hid (own_below hown hbA)
        have HROWS := Lib.hid hrows
        have HGO := Lib.hid hgo
        have hs2 : w.heap.size ≤ wr.heap.size := hb.size
        have HB := Lib.hid hb
        have HGC := Lib.hid hgc
        have HHF := Lib.hid hf
        have HHC := Lib.hid hc
        generalize hN : (pre.filter (accB R [])).length = N at *
        have HN := Lib.hid hN
        clear hapr hblk HFV HOP hown hrows hgo hbA hb hacx HACC HF0 HF1 hN
        gi_wp2
        refine wpIn_region_any (by kernel_rfl) ?_
        change wpAnyIn _ _ _ _ _ _ _ _ _ (World.drew _)
        refine wpAnyIn_ready (rs := [0, 1]) (by kernel_rfl) (by simp) ?_
        refine AllReadyIn.cons rfl (fun K hK => ?_) ?_
        · skip
          go_simp
          refine hK _ _ ?_
          clear hK K
          refine wpAnyIn_ready (rs := [1]) (by kernel_rfl) (by simp) ?_
          refine AllReadyIn.cons rfl (fun K hK => ?_) ?_
          · skip
            go_simp
            refine hK _ _ ?_
            clear hK K
            refine wpAnyIn_ready (rs := [2]) (by kernel_rfl) (by simp) ?_
            refine AllReadyIn.cons rfl (fun K hK => ?_) ?_
            · skip
              go_simp
              refine ⟨trivial, fun h => (by simp [Fence.wide] at h), ?_⟩
              gi_at_call 49
              refine (CallsIn.inRound l (callsIn_wide.2 (ClipO_any A' k c' _ (by omega) hc'))).mono ?_
              rintro e w' ⟨rfl, rfl⟩
              go_simp
              refine hK _ _ ?_
              clear hK K
              refine wpAnyIn_ready (rs := [3]) (by kernel_rfl) (by simp) ?_
              refine AllReadyIn.cons rfl (fun K hK => ?_) ?_
              · skip
                go_simp
                refine hK _ _ ?_
                clear hK K
                refine wpAnyIn_ready (rs := [4]) (by kernel_rfl) (by simp) ?_
                refine AllReadyIn.cons rfl (fun K hK => ?_) ?_
                · skip
                  refine stepIn_rows (.tmp 32) (.tmp 35) HOWA.out (by have := HBA.out.size; omega) (Src.one wr.drew (.slice A' k k) 26 rfl) (by omega) rfl rfl rfl rfl ?_
                  intro v1 w1 hown1 hg1 hat1
                  obtain ⟨A1, c1, rfl, hc1⟩ := own_form2 hown1
                  have hne : (Value.slice Ao N co').ownBlock ≠ some (w.heap.size + 2) := fun e => by have := HGO.out _ e; omega
                  have c2w := (cell_grown hg1 (p := ⟨w.heap.size + 2, 0, none⟩) (block_lt_of_cell hcA) (fun e => hne e.symm)).trans hcA
                  have f2w : w1.frozen? ⟨w.heap.size + 2, 0, none⟩ = false := (frozen_grown hg1 (p := ⟨w.heap.size + 2, 0, none⟩) (block_lt_of_cell hcA) (fun e => hne e.symm)).trans ((HBA.out.frozen (p := ⟨w.heap.size + 2, 0, none⟩) (block_lt_of_cell hc)).trans hf)
                  have hfin := And.intro (push_keep (w := wL) (bo := w.heap.size + 2) (q := w.heap.size + 1) (bx := w.heap.size + 3) (n0 := w.heap.size) (ov' := .slice A1 (N + 1) c1) (by omega) ⟨by omega, by omega⟩ ⟨by omega, by omega, by omega⟩ (by omega) HGO.out (by omega) HBA.out hg1) (And.intro (OutInv.push (w := wL) (bo := w.heap.size + 2) (q := w.heap.size + 1) (xss := pre.filter (accB R [])) (by omega) (by omega) (by omega) ⟨by omega, by omega⟩ HB.out HHF.out HHC.out (by rw [HN.out]; exact HOWN.out) HROWS.out HAPR.out HGO.out HX.out HXL.out HBA.out hlo (by rw [HN.out]; exact hown1) hg1 hat1) (push_cell (w := wL) (bo := w.heap.size + 2) (q := w.heap.size + 1) (p := w.heap.size) (ov' := .slice A1 (N + 1) c1) HGO.out (by omega) (by omega) (by omega) HBA.out hg1 HGC.out))
                  have HFIN := Lib.hid hfin
                  clear hfin hown1 hg1 hat1
                  go_simp
                  refine hK _ _ ?_
                  clear hK K
                  refine wpAnyIn_ready (rs := [5]) (by kernel_rfl) (by simp) ?_
                  refine AllReadyIn.cons rfl (fun K hK => ?_) ?_
                  · skip
                    go_simp
                    refine hK _ _ ?_
                    clear hK K
                    refine wpAnyIn_done (by kernel_rfl) ?_ _
                    have hgoal : permPost wL.heap.size (w.heap.size + 3) w.heap.size (fun acc V => OutInv w wL (w.heap.size + 2) (w.heap.size + 1) (acc.filter (accB R [])) V ∧ V.cell? ⟨w.heap.size, 0, none⟩ = some (.slice G 4 gc)) (pre ++ [x]) wr .normal { tmps := #[], defers := [] } (w1.setCell ⟨w.heap.size + 2, 0, none⟩ (.slice A1 (N + 1) c1)) := by
                      refine ⟨HFIN.out.1, ?_, HFIN.out.2.2⟩
                      show OutInv _ _ _ _ ((pre ++ [x]).filter (accB R [])) _
                      rw [HF.out]
                      exact HFIN.out.2.1
                    exact hgoal
                  exact AllReadyIn.nil
                exact AllReadyIn.nil
              exact AllReadyIn.nil
            exact AllReadyIn.nil
          exact AllReadyIn.nil
        refine AllReadyIn.cons rfl (fun K hK => ?_) ?_
        · skip
          go_simp
          refine hK _ _ ?_
          clear hK K
          refine wpAnyIn_ready (rs := [0, 2]) (by kernel_rfl) (by simp) ?_
          refine AllReadyIn.cons rfl (fun K hK => ?_) ?_
          · skip
            go_simp
            refine hK _ _ ?_
            clear hK K
            refine wpAnyIn_ready (rs := [2]) (by kernel_rfl) (by simp) ?_
            refine AllReadyIn.cons rfl (fun K hK => ?_) ?_
            · skip
              go_simp
              refine ⟨trivial, fun h => (by simp [Fence.wide] at h), ?_⟩
              gi_at_call 49
              refine (CallsIn.inRound l (callsIn_wide.2 (ClipO_any A' k c' _ (by omega) hc'))).mono ?_
              rintro e w' ⟨rfl, rfl⟩
              go_simp
              refine hK _ _ ?_
              clear hK K
              refine wpAnyIn_ready (rs := [3]) (by kernel_rfl) (by simp) ?_
              refine AllReadyIn.cons rfl (fun K hK => ?_) ?_
              · skip
                go_simp
                refine hK _ _ ?_
                clear hK K
                refine wpAnyIn_ready (rs := [4]) (by kernel_rfl) (by simp) ?_
                refine AllReadyIn.cons rfl (fun K hK => ?_) ?_
                · skip
                  refine stepIn_rows (.tmp 32) (.tmp 35) HOWA.out (by have := HBA.out.size; omega) (Src.one wr.drew (.slice A' k k) 26 rfl) (by omega) rfl rfl rfl rfl ?_
                  intro v1 w1 hown1 hg1 hat1
                  obtain ⟨A1, c1, rfl, hc1⟩ := own_form2 hown1
                  have hne : (Value.slice Ao N co').ownBlock ≠ some (w.heap.size + 2) := fun e => by have := HGO.out _ e; omega
                  have c2w := (cell_grown hg1 (p := ⟨w.heap.size + 2, 0, none⟩) (block_lt_of_cell hcA) (fun e => hne e.symm)).trans hcA
                  have f2w : w1.frozen? ⟨w.heap.size + 2, 0, none⟩ = false := (frozen_grown hg1 (p := ⟨w.heap.size + 2, 0, none⟩) (block_lt_of_cell hcA) (fun e => hne e.symm)).trans ((HBA.out.frozen (p := ⟨w.heap.size + 2, 0, none⟩) (block_lt_of_cell hc)).trans hf)
                  have hfin := And.intro (push_keep (w := wL) (bo := w.heap.size + 2) (q := w.heap.size + 1) (bx := w.heap.size + 3) (n0 := w.heap.size) (ov' := .slice A1 (N + 1) c1) (by omega) ⟨by omega, by omega⟩ ⟨by omega, by omega, by omega⟩ (by omega) HGO.out (by omega) HBA.out hg1) (And.intro (OutInv.push (w := wL) (bo := w.heap.size + 2) (q := w.heap.size + 1) (xss := pre.filter (accB R [])) (by omega) (by omega) (by omega) ⟨by omega, by omega⟩ HB.out HHF.out HHC.out (by rw [HN.out]; exact HOWN.out) HROWS.out HAPR.out HGO.out HX.out HXL.out HBA.out hlo (by rw [HN.out]; exact hown1) hg1 hat1) (push_cell (w := wL) (bo := w.heap.size + 2) (q := w.heap.size + 1) (p := w.heap.size) (ov' := .slice A1 (N + 1) c1) HGO.out (by omega) (by omega) (by omega) HBA.out hg1 HGC.out))
                  have HFIN := Lib.hid hfin
                  clear hfin hown1 hg1 hat1
                  go_simp
                  refine hK _ _ ?_
                  clear hK K
                  refine wpAnyIn_ready (rs := [5]) (by kernel_rfl) (by simp) ?_
                  refine AllReadyIn.cons rfl (fun K hK => ?_) ?_
                  · skip
                    go_simp
                    refine hK _ _ ?_
                    clear hK K
                    refine wpAnyIn_done (by kernel_rfl) ?_ _
                    have hgoal : permPost wL.heap.size (w.heap.size + 3) w.heap.size (fun acc V => OutInv w wL (w.heap.size + 2) (w.heap.size + 1) (acc.filter (accB R [])) V ∧ V.cell? ⟨w.heap.size, 0, none⟩ = some (.slice G 4 gc)) (pre ++ [x]) wr .normal { tmps := #[], defers := [] } (w1.setCell ⟨w.heap.size + 2, 0, none⟩ (.slice A1 (N + 1) c1)) := by
                      refine ⟨HFIN.out.1, ?_, HFIN.out.2.2⟩
                      show OutInv _ _ _ _ ((pre ++ [x]).filter (accB R [])) _
                      rw [HF.out]
                      exact HFIN.out.2.1
                    exact hgoal
                  exact AllReadyIn.nil
                exact AllReadyIn.nil
              exact AllReadyIn.nil
            exact AllReadyIn.nil
          refine AllReadyIn.cons rfl (fun K hK => ?_) ?_
          · skip
            go_simp
            refine ⟨trivial, fun h => (by simp [Fence.wide] at h), ?_⟩
            gi_at_call 49
            refine (CallsIn.inRound l (callsIn_wide.2 (ClipO_any A' k c' _ (by omega) hc'))).mono ?_
            rintro e w' ⟨rfl, rfl⟩
            go_simp
            refine hK _ _ ?_
            clear hK K
            refine wpAnyIn_ready (rs := [0, 3]) (by kernel_rfl) (by simp) ?_
            refine AllReadyIn.cons rfl (fun K hK => ?_) ?_
            · skip
              go_simp
              refine hK _ _ ?_
              clear hK K
              refine wpAnyIn_ready (rs := [3]) (by kernel_rfl) (by simp) ?_
              refine AllReadyIn.cons rfl (fun K hK => ?_) ?_
              · skip
                go_simp
                refine hK _ _ ?_
                clear hK K
                refine wpAnyIn_ready (rs := [4]) (by kernel_rfl) (by simp) ?_
                refine AllReadyIn.cons rfl (fun K hK => ?_) ?_
                · skip
                  refine stepIn_rows (.tmp 32) (.tmp 35) HOWA.out (by have := HBA.out.size; omega) (Src.one wr.drew (.slice A' k k) 26 rfl) (by omega) rfl rfl rfl rfl ?_
                  intro v1 w1 hown1 hg1 hat1
                  obtain ⟨A1, c1, rfl, hc1⟩ := own_form2 hown1
                  have hne : (Value.slice Ao N co').ownBlock ≠ some (w.heap.size + 2) := fun e => by have := HGO.out _ e; omega
                  have c2w := (cell_grown hg1 (p := ⟨w.heap.size + 2, 0, none⟩) (block_lt_of_cell hcA) (fun e => hne e.symm)).trans hcA
                  have f2w : w1.frozen? ⟨w.heap.size + 2, 0, none⟩ = false := (frozen_grown hg1 (p := ⟨w.heap.size + 2, 0, none⟩) (block_lt_of_cell hcA) (fun e => hne e.symm)).trans ((HBA.out.frozen (p := ⟨w.heap.size + 2, 0, none⟩) (block_lt_of_cell hc)).trans hf)
                  have hfin := And.intro (push_keep (w := wL) (bo := w.heap.size + 2) (q := w.heap.size + 1) (bx := w.heap.size + 3) (n0 := w.heap.size) (ov' := .slice A1 (N + 1) c1) (by omega) ⟨by omega, by omega⟩ ⟨by omega, by omega, by omega⟩ (by omega) HGO.out (by omega) HBA.out hg1) (And.intro (OutInv.push (w := wL) (bo := w.heap.size + 2) (q := w.heap.size + 1) (xss := pre.filter (accB R [])) (by omega) (by omega) (by omega) ⟨by omega, by omega⟩ HB.out HHF.out HHC.out (by rw [HN.out]; exact HOWN.out) HROWS.out HAPR.out HGO.out HX.out HXL.out HBA.out hlo (by rw [HN.out]; exact hown1) hg1 hat1) (push_cell (w := wL) (bo := w.heap.size + 2) (q := w.heap.size + 1) (p := w.heap.size) (ov' := .slice A1 (N + 1) c1) HGO.out (by omega) (by omega) (by omega) HBA.out hg1 HGC.out))
                  have HFIN := Lib.hid hfin
                  clear hfin hown1 hg1 hat1
                  go_simp
                  refine hK _ _ ?_
                  clear hK K
                  refine wpAnyIn_ready (rs := [5]) (by kernel_rfl) (by simp) ?_
                  refine AllReadyIn.cons rfl (fun K hK => ?_) ?_
                  · skip
                    go_simp
                    refine hK _ _ ?_
                    clear hK K
                    refine wpAnyIn_done (by kernel_rfl) ?_ _
                    have hgoal : permPost wL.heap.size (w.heap.size + 3) w.heap.size (fun acc V => OutInv w wL (w.heap.size + 2) (w.heap.size + 1) (acc.filter (accB R [])) V ∧ V.cell? ⟨w.heap.size, 0, none⟩ = some (.slice G 4 gc)) (pre ++ [x]) wr .normal { tmps := #[], defers := [] } (w1.setCell ⟨w.heap.size + 2, 0, none⟩ (.slice A1 (N + 1) c1)) := by
                      refine ⟨HFIN.out.1, ?_, HFIN.out.2.2⟩
                      show OutInv _ _ _ _ ((pre ++ [x]).filter (accB R [])) _
                      rw [HF.out]
                      exact HFIN.out.2.1
                    exact hgoal
                  exact AllReadyIn.nil
                exact AllReadyIn.nil
              exact AllReadyIn.nil
            refine AllReadyIn.cons rfl (fun K hK => ?_) ?_
            · skip
              go_simp
              refine hK _ _ ?_
              clear hK K
              refine wpAnyIn_ready (rs := [0]) (by kernel_rfl) (by simp) ?_
              refine AllReadyIn.cons rfl (fun K hK => ?_) ?_
              · skip
                go_simp
                refine hK _ _ ?_
                clear hK K
                refine wpAnyIn_ready (rs := [4]) (by kernel_rfl) (by simp) ?_
                refine AllReadyIn.cons rfl (fun K hK => ?_) ?_
                · skip
                  refine stepIn_rows (.tmp 32) (.tmp 35) HOWA.out (by have := HBA.out.size; omega) (Src.one wr.drew (.slice A' k k) 26 rfl) (by omega) rfl rfl rfl rfl ?_
                  intro v1 w1 hown1 hg1 hat1
                  obtain ⟨A1, c1, rfl, hc1⟩ := own_form2 hown1
                  have hne : (Value.slice Ao N co').ownBlock ≠ some (w.heap.size + 2) := fun e => by have := HGO.out _ e; omega
                  have c2w := (cell_grown hg1 (p := ⟨w.heap.size + 2, 0, none⟩) (block_lt_of_cell hcA) (fun e => hne e.symm)).trans hcA
                  have f2w : w1.frozen? ⟨w.heap.size + 2, 0, none⟩ = false := (frozen_grown hg1 (p := ⟨w.heap.size + 2, 0, none⟩) (block_lt_of_cell hcA) (fun e => hne e.symm)).trans ((HBA.out.frozen (p := ⟨w.heap.size + 2, 0, none⟩) (block_lt_of_cell hc)).trans hf)
                  have hfin := And.intro (push_keep (w := wL) (bo := w.heap.size + 2) (q := w.heap.size + 1) (bx := w.heap.size + 3) (n0 := w.heap.size) (ov' := .slice A1 (N + 1) c1) (by omega) ⟨by omega, by omega⟩ ⟨by omega, by omega, by omega⟩ (by omega) HGO.out (by omega) HBA.out hg1) (And.intro (OutInv.push (w := wL) (bo := w.heap.size + 2) (q := w.heap.size + 1) (xss := pre.filter (accB R [])) (by omega) (by omega) (by omega) ⟨by omega, by omega⟩ HB.out HHF.out HHC.out (by rw [HN.out]; exact HOWN.out) HROWS.out HAPR.out HGO.out HX.out HXL.out HBA.out hlo (by rw [HN.out]; exact hown1) hg1 hat1) (push_cell (w := wL) (bo := w.heap.size + 2) (q := w.heap.size + 1) (p := w.heap.size) (ov' := .slice A1 (N + 1) c1) HGO.out (by omega) (by omega) (by omega) HBA.out hg1 HGC.out))
                  have HFIN := Lib.hid hfin
                  clear hfin hown1 hg1 hat1
                  go_simp
                  refine hK _ _ ?_
                  clear hK K
                  refine wpAnyIn_ready (rs := [5]) (by kernel_rfl) (by simp) ?_
                  refine AllReadyIn.cons rfl (fun K hK => ?_) ?_
                  · skip
                    go_simp
                    refine hK _ _ ?_
                    clear hK K
                    refine wpAnyIn_done (by kernel_rfl) ?_ _
                    have hgoal : permPost wL.heap.size (w.heap.size + 3) w.heap.size (fun acc V => OutInv w wL (w.heap.size + 2) (w.heap.size + 1) (acc.filter (accB R [])) V ∧ V.cell? ⟨w.heap.size, 0, none⟩ = some (.slice G 4 gc)) (pre ++ [x]) wr .normal { tmps := #[], defers := [] } (w1.setCell ⟨w.heap.size + 2, 0, none⟩ (.slice A1 (N + 1) c1)) := by
                      refine ⟨HFIN.out.1, ?_, HFIN.out.2.2⟩
                      show OutInv _ _ _ _ ((pre ++ [x]).filter (accB R [])) _
                      rw [HF.out]
                      exact HFIN.out.2.1
                    exact hgoal
                  exact AllReadyIn.nil
                exact AllReadyIn.nil
              exact AllReadyIn.nil
            exact AllReadyIn.nil
          exact AllReadyIn.nil
        exact AllReadyIn.nil
end Go.Proofs.Ytncebpmckbcabaa
