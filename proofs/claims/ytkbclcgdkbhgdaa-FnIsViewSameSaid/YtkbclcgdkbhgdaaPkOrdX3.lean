/-
  The texts that the proof rests on, joined: part 3.
-/
import Derived.IntWalk
import Derived.Scope
import Derived.WalkMore
import Derived.Test.YtkbclcgdkbhgdaaPkOrdX2
namespace Go.Proofs.Ytkbclcgdkbhgdaa
open Go.RowKit Go.BigFrame Go.Shelf
set_option linter.unusedVariables false

attribute [local go_sem] Oper.semAt_some

set_option maxHeartbeats 400000 in
theorem ClipO_any (A : Option Addr) (n c : Nat) (w : World) (hn : n ≤ 1099511627776) (hnc : n ≤ c) :
    Calls Try.prog 99 #[.slice A n c] w fun e w' => e = .returned (.slice A n n) ∧ w = w' := by
  go_enter Try.func99, Try.ntmps99
  go_wp2
  go_ret
  exact ⟨rfl, rfl⟩
set_option maxHeartbeats 400000 in
theorem ClipL_any (A : Option Addr) (n c : Nat) (w : World) (hn : n ≤ 1099511627776) (hnc : n ≤ c) :
    Calls Try.prog 84 #[.slice A n c] w fun e w' => e = .returned (.slice A n n) ∧ w = w' := by
  go_enter Try.func84, Try.ntmps84
  go_wp2
  go_ret
  exact ⟨rfl, rfl⟩

section
variable {w : World} {ops : Array Oper} {o : Oper} {a : Act} {K : Act → World → Prop} {Q : Exit → Act → World → Prop} {E : Prop} {l m : Nat}
/-- append of a slice, at a step of a region that draws its order, within a round. -/
theorem stepIn_rows (s x : Operand) {base : Nat} {v : Value} {n : Nat} {rv : List Value} (hown : w.ownsRow base 40 1 v n rv) (hbase : base ≤ w.heap.size)
    {A : Option Addr} {k c : Nat} {rs : List Value} (hr : Src w 1 A k rs) (hn : n + k ≤ 1099511627776)
    (hgd : o.guard = none) (ho : o.op = .call { callee := .builtin .append, args := #[s, x], argTypes := #[33, 33] }) (hs : a.eval s = v) (hx : a.eval x = .slice A k c)
    (h : ∀ v' w', w'.ownsRow base 40 1 v' (n + k) (rv ++ rs) → w.grownBy w' v.ownBlock → (v'.ownBlock = v.ownBlock ∨ v'.ownBlock = some w.heap.size) → K (a.put o.dst v') w') :
    if Region.wanted o (yielded ops a.tmps) = true then Oper.wpIn (Fence.wide.inRound l) m Try.prog o a w K Q else E := by
  have hw : Region.wanted o (yielded ops a.tmps) = true := by simp [Region.wanted, hgd]
  rw [if_pos hw]
  obtain ⟨i0, hi, hz0, hz1, hz2⟩ := info_parts intsInfo
  obtain ⟨v', w', hrun, h2, h3, h4⟩ := run_app (P := Try.prog) base 33 o.type 40 i0 _ 1 24 Try.underlying33 hi hz0 hz1 hz2 rfl (by decide) v n rv hown A k c rs hr (by simp only [maxLen]; omega) (by omega) hbase
  unfold Oper.wpIn
  refine ⟨?_, ?_⟩
  · simp [Oper.about, ho, resolve, Target.leads, Sem.run_pure]
  · rw [Oper.semAt_plain _ _ _ (by rw [ho]; intro c hc'; cases hc')]
    simp [execOp, ho, resolve, invoke, builtin, hs, hx, hrun, Result.andThen]
    exact h v' w' h2 h3 h4
end

theorem orders_start (w : World) (A G : Option Addr) (n c gc : Nat) (wL : World) (hwL : (((w.alloc (.cells #[.slice G 4 gc] 40)).alloc (.cells #[] 40)).alloc (.cells #[.slice (some ⟨w.heap.size + 1, 0, none⟩) 0 0] 33)).alloc (.cells #[.slice A n c] 40) = wL) :
    Below w.heap.size w wL ∧ wL.heap.size = w.heap.size + 4 ∧ wL.cell? ⟨w.heap.size, 0, none⟩ = some (.slice G 4 gc) ∧ wL.cell? ⟨w.heap.size + 2, 0, none⟩ = some (.slice (some ⟨w.heap.size + 1, 0, none⟩) 0 0) ∧
      wL.frozen? ⟨w.heap.size + 2, 0, none⟩ = false ∧ wL.cell? ⟨w.heap.size + 3, 0, none⟩ = some (.slice A n c) ∧ wL.ownsRow w.heap.size 40 1 (.slice (some ⟨w.heap.size + 1, 0, none⟩) 0 0) 0 [] := by
  obtain ⟨w1, h1⟩ : ∃ w1, w.alloc (.cells #[.slice G 4 gc] 40) = w1 := ⟨_, rfl⟩
  rw [h1] at hwL
  obtain ⟨w2, h2⟩ : ∃ w2, w1.alloc (.cells #[] 40) = w2 := ⟨_, rfl⟩
  rw [h2] at hwL
  obtain ⟨w3, h3⟩ : ∃ w3, w2.alloc (.cells #[.slice (some ⟨w.heap.size + 1, 0, none⟩) 0 0] 33) = w3 := ⟨_, rfl⟩
  rw [h3] at hwL
  have s1 : w1.heap.size = w.heap.size + 1 := by rw [← h1]; simp
  have s2 : w2.heap.size = w.heap.size + 2 := by rw [← h2]; simp; omega
  have s3 : w3.heap.size = w.heap.size + 3 := by rw [← h3]; simp; omega
  have s4 : wL.heap.size = w.heap.size + 4 := by rw [← hwL]; simp; omega
  have b3 : Below w3.heap.size w3 wL := by rw [← hwL]; exact (Below.refl _ _).alloc (Nat.le_refl _) _
  have b2 : Below w2.heap.size w2 wL := by
    refine Below.trans ?_ (b3.mono (by omega))
    rw [← h3]; exact (Below.refl _ _).alloc (Nat.le_refl _) _
  have b1 : Below w1.heap.size w1 wL := by
    refine Below.trans ?_ (b2.mono (by omega))
    rw [← h2]; exact (Below.refl _ _).alloc (Nat.le_refl _) _
  have b0 : Below w.heap.size w wL := by
    refine Below.trans ?_ (b1.mono (by omega))
    rw [← h1]; exact (Below.refl _ _).alloc (Nat.le_refl _) _
  have k1 : w1.heap[w.heap.size]? = some (.cells #[.slice G 4 gc] 40 (0, 0)) := by rw [← h1]; exact heap_alloc_new w _
  have k2 : w2.ownsRow w.heap.size 40 1 (.slice (some ⟨w.heap.size + 1, 0, none⟩) 0 0) 0 [] := by
    have := World.ownsRow_made (base := w.heap.size) (e := 40) (size := 1) w1 #[] 0 (by omega) (by decide) rfl
    rw [s1, h2] at this
    exact this
  have k3 : w3.heap[w.heap.size + 2]? = some (.cells #[.slice (some ⟨w.heap.size + 1, 0, none⟩) 0 0] 33 (0, 0)) := by
    have := heap_alloc_new w2 (.cells #[.slice (some ⟨w.heap.size + 1, 0, none⟩) 0 0] 33)
    rw [h3, s2] at this; exact this
  have k4 : wL.heap[w.heap.size + 3]? = some (.cells #[.slice A n c] 40 (0, 0)) := by
    have := heap_alloc_new w3 (.cells #[.slice A n c] 40)
    rw [hwL, s3] at this; exact this
  have k1' := (b1.block _ (by omega)).trans k1
  have k3' := (b3.block _ (by omega)).trans k3
  refine ⟨b0, s4, ?_, ?_, ?_, ?_, own_below k2 b2⟩
  · rw [cell_of_row _ _ _ _ _ _ k1']; rfl
  · rw [cell_of_row _ _ _ _ _ _ k3']; rfl
  · simp [World.frozen?, k3']
  · rw [cell_of_row _ _ _ _ _ _ k4]; rfl

theorem Src.one (w : World) (u : Value) (t : TypeId) (h1 : u.oneCell' = true) : Src (w.alloc (.cells #[u] t)) 1 (some ⟨w.heap.size, 0, none⟩) 1 [u] :=
  ⟨rfl, by simp [h1], fun _ => ⟨_, rfl, fun j v hv => cell_one_new w u t j v hv⟩⟩

set_option maxRecDepth 100000 in
set_option maxHeartbeats 2000000 in
theorem ordersBy_any (A G : Option Addr) (n c gc : Nat) (list : List Int) (R : List Nat) (w : World) (hl : RInts w A n list) (hA : ∀ ad, A = some ad → ad.block < w.heap.size) (hg : RInts w G 4 (rowsI R)) (h4 : Rows4 R) (hr : ∀ t ∈ list, 0 ≤ t ∧ t ≤ 3) (hn4 : n ≤ 4) :
    Calls Try.prog 118 #[.slice A n c, .slice G 4 gc] w (RetListsA w (ordI list R)) := by
  have hlen := hl.1
  have HL := Lib.hid hl
  have HG := Lib.hid hg
  have H4 := Lib.hid h4
  have HR := Lib.hid hr
  have HA := Lib.hid hA
  have HLEN := Lib.hid hlen
  clear hl hg h4 hr hA hlen
  refine (callsIn_wide (n := 9)).1 ?_
  refine callsIn_of_wp_marks Try.func118 rfl trivial ?_ rfl
  simp only [Try.ntmps118, List.size_toArray, List.length_cons, List.length_nil, Nat.reduceAdd, Nat.reduceSub, Array.replicate_succ, Array.replicate_zero, List.push_toArray, List.append_toArray, List.nil_append, List.cons_append]
  gi_wp2
  refine (wpIn_wide (n := 9)).2 (wp_scope_straight ((wpIn_wide (n := 9)).1 ?_))
  gi_wp2
  refine wpIn_label ?_
  gi_wp2_with (refine ⟨trivial, ?_⟩; gi_at_call 96; refine (callsIn_wide.2 (permutations_any A n c _)).mono ?_; rintro e w' ⟨rfl, rfl⟩)
  -- the world where the loop begins
  obtain ⟨wL, hwL⟩ : ∃ wL, (((w.alloc (.cells #[.slice G 4 gc] 40)).alloc (.cells #[] 40)).alloc (.cells #[.slice (some ⟨w.heap.size + 1, 0, none⟩) 0 0] 33)).alloc (.cells #[.slice A n c] 40) = wL := ⟨_, rfl⟩
  have hfacts : Below w.heap.size w wL ∧ wL.heap.size = w.heap.size + 4 ∧ wL.cell? ⟨w.heap.size, 0, none⟩ = some (.slice G 4 gc) ∧ wL.cell? ⟨w.heap.size + 2, 0, none⟩ = some (.slice (some ⟨w.heap.size + 1, 0, none⟩) 0 0) ∧
      wL.frozen? ⟨w.heap.size + 2, 0, none⟩ = false ∧ wL.cell? ⟨w.heap.size + 3, 0, none⟩ = some (.slice A n c) ∧ wL.ownsRow w.heap.size 40 1 (.slice (some ⟨w.heap.size + 1, 0, none⟩) 0 0) 0 [] := orders_start w A G n c gc wL hwL
  rw [hwL]
  clear hwL
  obtain ⟨hbL, hsL, cg, co, fo, cl, hoL⟩ := hfacts
  have hS : w.heap.size + 2 < wL.heap.size := by omega
  refine wpIn_rangePerm (w.heap.size + 3) w.heap.size n c A list rfl rfl cl (HL.out.below hbL (Nat.le_refl _)) HA.out (by omega) hn4
    (fun acc V => OutInv w wL (w.heap.size + 2) (w.heap.size + 1) (acc.filter (accB R [])) V ∧ V.cell? ⟨w.heap.size, 0, none⟩ = some (.slice G 4 gc)) ?hI ⟨OutInv.start hbL co fo hoL, cg⟩
    (fun v => { tmps := #[.slice A n c, .slice G 4 gc, undef, .pointer (some ⟨w.heap.size, 0, none⟩), .slice none 0 0, .pointer (some ⟨w.heap.size + 1 + 1, 0, none⟩), v, undef, undef, undef, .slice (some ⟨w.heap.size + 1, 0, none⟩) 0 0, .slice A n c, .func (.func 134) #[] #[.pointer (some ⟨w.heap.size + 3, 0, none⟩)], v, undef, undef, undef, undef, undef, undef, undef, undef, undef, undef, undef, undef, undef, undef, undef, undef, undef, undef, undef, undef, undef, undef, undef, undef, undef], defers := [] }) ?assign ?body ?done
  case hI =>
    rintro s V W ⟨h1, h2⟩ hst
    exact ⟨h1.step (by omega) (by omega) (by omega) hst, (World.cell?_of_block (w := V) (a := ⟨w.heap.size, 0, none⟩) (hst.block _ (block_lt_of_cell h2) (by simp; omega))).trans h2⟩
  case assign =>
    intro l m v W K hK
    gi_wp2
    exact hK
  case done =>
    rintro W ⟨hO, _⟩ hsz hdf
    have hO2 := hO.step (by omega) (by omega) (by omega) (LpStep.put W (l := wL.heap.size) (.deferred none) (by omega))
    obtain ⟨hb, hf, ov, rv, hc, hown, hrows, hapr, hgo⟩ := hO
    obtain ⟨Ao, co', rfl, hco⟩ := own_form2 hown
    have HRET : Hid (RetListsA w ((permF list n []).filter (accB R [])) (.returned (.slice Ao ((permF list n []).filter (accB R [])).length ((permF list n []).filter (accB R [])).length)) (W.putObj wL.heap.size (.deferred none))) := by
      obtain ⟨hb2, _, ov2, rv2, hc2, hown2, hrows2, hap2, _⟩ := hO2
      have ek : (W.putObj wL.heap.size (.deferred none)).cell? ⟨w.heap.size + 2, 0, none⟩ = W.cell? ⟨w.heap.size + 2, 0, none⟩ := World.cell?_of_block (w := W) (World.putObj_heap_other (by simp; omega))
      rw [ek, hc] at hc2
      injection hc2 with hc2
      subst hc2
      exact ⟨Ao, _, rv2, rfl, Nat.le_refl _, OuterR.of_own hown2 (Nat.le_refl _) hrows2.one, hrows2.since (by rw [six_size]; omega), hap2, hb2⟩
    have hN : ((permF list n []).filter (accB R [])).length ≤ 256 := by
      refine Nat.le_trans (List.length_filter_le _ _) (Nat.le_trans (permF_len (by rw [HLEN.out]; exact hn4) n []) ?_)
      exact Nat.pow_le_pow_right (by omega) hn4
    have HOR : Hid (ordI list R = (permF list n []).filter (accB R [])) := by show _ = _; unfold ordI; rw [HLEN.out]
    generalize (permF list n []).filter (accB R []) = res at *
    generalize res.length = N at *
    clear hO2 hown hrows hgo hb hapr
    gi_wp2_with (refine ⟨trivial, ?_⟩; gi_at_call 84; refine (callsIn_wide.2 (ClipL_any Ao N co' _ (by omega) hco)).mono ?_; rintro e w' ⟨rfl, rfl⟩)
    rw [Exit.noGoto_ret]
    rw [hsL] at hdf HRET
    refine ⟨by simp, .inl ⟨_, _, rfl, run_takeDeferred hdf, ?_⟩⟩
    exact ⟨_, results_tmp rfl _ _ _, by rw [HOR.out]; exact HRET.out⟩
  case body =>
    rintro l m pre x V W A' c' ⟨hOV, hgV⟩ hstV hloV hfV hc' hpx
    have hO : OutInv w wL (w.heap.size + 2) (w.heap.size + 1) (pre.filter (accB R [])) W := hOV.step (by omega) (by omega) (by omega) hstV
    have hgc : W.cell? ⟨w.heap.size, 0, none⟩ = some (.slice G 4 gc) := (World.cell?_of_block (w := V) (a := ⟨w.heap.size, 0, none⟩) (hstV.block _ (block_lt_of_cell hgV) (by simp; omega))).trans hgV
    have hlo : wL.heap.size + 6 ≤ W.heap.size := by have := hstV.size; omega
    have hfx : FreshInts (six wL) W A' n x := hfV.since (by rw [six_size]; omega)
    have HOP := Lib.hid (hOV.open_ (by omega) (by omega) (by omega) hstV)
    have HFV := Lib.hid hfV
    clear hOV hgV hstV hloV hfV
    have hxm : x ∈ permF list n [] := List.IsPrefix.subset hpx (by simp)
    have hxl : x.length = n := by have := permF_length n [] x hxm; simpa using this
    have hxr : ∀ t ∈ x, 0 ≤ t ∧ t ≤ 3 := fun t ht => by
      rcases permF_sub n [] x hxm t ht with h | h
      · cases h
      · exact HR.out t h
    have hpl : (pre.filter (accB R [])).length + 1 ≤ 256 := by
      have h1 := hpx.length_le
      have h2 := permF_len (list := list) (by rw [HLEN.out]; exact hn4) n []
      have h3 : (4:Nat) ^ n ≤ 256 := Nat.pow_le_pow_right (by omega) hn4
      have h4 := List.length_filter_le (accB R []) pre
      simp at h1
      omega
    have HX := Lib.hid hfx
    have HO := Lib.hid hO
    have HXR := Lib.hid hxr
    have HXL := Lib.hid hxl
    have HGW : Hid (RInts W G 4 (rowsI R)) := HG.out.below hO.below (Nat.le_refl _)
    have HF1 : Hid (accB R [] x = true → (pre ++ [x]).filter (accB R []) = pre.filter (accB R []) ++ [x]) := fun h => by rw [List.filter_append, List.filter_cons, if_pos h, List.filter_nil]
    have HF0 : Hid (accB R [] x = false → (pre ++ [x]).filter (accB R []) = pre.filter (accB R [])) := fun h => by rw [List.filter_append, List.filter_cons, if_neg (by rw [h]; simp), List.filter_nil, List.append_nil]
    clear hO hfx hpx hxm hxr hxl
    gi_wp2
    gi_loopw [7, 16] (fun g i wr => ∃ k : Nat, k ≤ n ∧ i = .int .i64 k ∧ g = .int .i64 (goneN (x.take k) : Nat) ∧ accB R [] (x.take k) = true ∧ wr = W) (fun _ i _ => n - (intOf i).toNat)
    case atStart => exact ⟨0, Nat.zero_le _, rfl, by simp [goneN], by simp [accB], rfl⟩
    case round =>
      obtain ⟨k, hk, rfl, rfl, hacc, rfl⟩ := hrel
      have HACC := Lib.hid hacc
      clear hacc
      by_cases hlt : k < n
      · obtain ⟨b, off, t, rfl, hbl, ho, ct⟩ := HX.out.1.at_ hlt
        have htr := HXR.out t (List.mem_of_getElem? ho)
        have hg16 : goneN (x.take k) < 16 := goneN_lt fun u hu => HXR.out u (List.mem_of_mem_take hu)
        have HGO : Hid (goneN (x.take (k + 1)) = goneN (x.take k) ||| 1 <<< t.toNat) := gone_take ho
        have HNO : Hid (¬ (R.getD t.toNat 0 &&& goneN (x.take k) = 0) → accB R [] x = false) := acc_no ho
        have HYES : Hid (R.getD t.toNat 0 &&& goneN (x.take k) = 0 → accB R [] (x.take (k + 1)) = true) := fun h => acc_go ho HACC.out h
        clear ho HACC
        generalize goneN (x.take k) = g at *
        obtain ⟨tn, rfl⟩ := Int.eq_ofNat_of_zero_le htr.1
        have htn : tn < 4 := by omega
        obtain ⟨bg, offg, rfl, hbg, cgr, hr16⟩ := rowsI_at3 H4.out HGW.out htn
        simp only [Int.toNat_natCast] at HNO HYES HGO
        generalize R.getD tn 0 = r at *
        have hand := and_nat r g (by omega) (by omega)
        obtain ⟨v, hv⟩ : ∃ v, r &&& g = v := ⟨_, rfl⟩
        rw [hv] at hand HNO HYES
        have l1 : (tn : Int) < 4 := by omega
        have l2 : (0 : Int) ≤ (tn : Int) := by omega
        have l3 : (k : Int) < n := by omega
        have l4 : (0 : Int) ≤ (k : Int) := by omega
        clear hv
        by_cases hv0 : v = 0
        · subst hv0
          have HY := Lib.hid (HYES.out rfl)
          have e1 : bits .or .i64 (g : Int) 1 = ((g ||| 1 : Nat) : Int) := or_nat g 1 (by omega) (by omega)
          have e2 : bits .or .i64 (g : Int) 2 = ((g ||| 2 : Nat) : Int) := or_nat g 2 (by omega) (by omega)
          have e4 : bits .or .i64 (g : Int) 4 = ((g ||| 4 : Nat) : Int) := or_nat g 4 (by omega) (by omega)
          have e8 : bits .or .i64 (g : Int) 8 = ((g ||| 8 : Nat) : Int) := or_nat g 8 (by omega) (by omega)
          clear HYES HNO
          rcases (by omega : tn = 0 ∨ tn = 1 ∨ tn = 2 ∨ tn = 3) with rfl | rfl | rfl | rfl
          all_goals
            try simp only [Nat.add_zero] at cgr
            gi_wp2
            go_roundw
            case rel => exact ⟨k + 1, by omega, by go_num, by rw [HGO.out]; rfl, HY.out, by first | rfl | trivial⟩
            case measure => simp [intOf]; omega
        · have hvn : ((v : Int) != 0) = true := by simp; omega
          have HN := Lib.hid (HNO.out hv0)
          clear HYES HNO
          gi_wp2
          refine ⟨BdKeep.of_below (Below.refl _ _), ?_, hgc⟩
          show OutInv _ _ _ _ ((pre ++ [x]).filter (accB R [])) _
          rw [HF0.out HN.out]
          exact HO.out
      · obtain rfl : k = n := by omega
        have hacx : accB R [] x = true := by
          have := HACC.out
          rwa [List.take_of_length_le (by rw [HXL.out]; exact Nat.le_refl _)] at this
        have HF := Lib.hid (HF1.out hacx)
        obtain ⟨hb, hf, ov, rv, hc, hown, hrows, hapr, hgo, hblk⟩ := HOP.out
        obtain ⟨Ao, co', rfl, hco⟩ := own_form2 hown
        have HAPR : Hid (ApartR (rv ++ [.slice A' k k])) := hapr.snoc fun i a m d b hAb hi => by
          obtain ⟨b', cur, e1, e2, _, _⟩ := HFV.out.2 b hAb
          have := hblk i a m d hi
          rw [e1]; simp only; omega
        have hcA : (wr.alloc (.cells #[.slice A' k k] 40)).drew.cell? ⟨w.heap.size + 2, 0, none⟩ = some (.slice Ao (pre.filter (accB R [])).length co') := (((Below.refl _ wr).alloc (Nat.le_refl _) (.cells #[.slice A' k k] 40)).drew.cell (p := ⟨w.heap.size + 2, 0, none⟩) (block_lt_of_cell hc)).trans hc
        have hbA : Below wr.heap.size wr (wr.alloc (.cells #[.slice A' k k] 40)).drew := ((Below.refl _ wr).alloc (Nat.le_refl _) _).drew
        have HBA := Lib.hid hbA
        have HOWN := Lib.hid hown
        have HOWA := Lib.hid (own_below hown hbA)
        have HROWS := Lib.hid hrows
        have HGO := Lib.hid hgo
        have hs2 : w.heap.size ≤ wr.heap.size := hb.size
        have HB := Lib.hid hb
        have HGC := Lib.hid hgc
        have HHF := Lib.hid hf
        have HHC := Lib.hid hc
        generalize hN : (pre.filter (accB R [])).length = N at *
        have HN := Lib.hid hN
        clear hapr hblk HFV HOP hown hrows hgo hbA hb hacx HACC HF0 HF1 hN
        gi_wp2
        refine wpIn_region_any (by kernel_rfl) ?_
        change wpAnyIn _ _ _ _ _ _ _ _ _ (World.drew _)
        refine wpAnyIn_ready (rs := [0, 1]) (by kernel_rfl) (by simp) ?_
        refine AllReadyIn.cons rfl (fun K hK => ?_) ?_
        · skip
          go_simp
          refine hK _ _ ?_
          clear hK K
          refine wpAnyIn_ready (rs := [1]) (by kernel_rfl) (by simp) ?_
          refine AllReadyIn.cons rfl (fun K hK => ?_) ?_
          · skip
            go_simp
            refine hK _ _ ?_
            clear hK K
            refine wpAnyIn_ready (rs := [2]) (by kernel_rfl) (by simp) ?_
            refine AllReadyIn.cons rfl (fun K hK => ?_) ?_
            · skip
              go_simp
              refine ⟨trivial, fun h => (by simp [Fence.wide] at h), ?_⟩
              gi_at_call 99
              refine (CallsIn.inRound l (callsIn_wide.2 (ClipO_any A' k c' _ (by omega) hc'))).mono ?_
              rintro e w' ⟨rfl, rfl⟩
              go_simp
              refine hK _ _ ?_
              clear hK K
              refine wpAnyIn_ready (rs := [3]) (by kernel_rfl) (by simp) ?_
              refine AllReadyIn.cons rfl (fun K hK => ?_) ?_
              · skip
                go_simp
                refine hK _ _ ?_
                clear hK K
                refine wpAnyIn_ready (rs := [4]) (by kernel_rfl) (by simp) ?_
                refine AllReadyIn.cons rfl (fun K hK => ?_) ?_
                · skip
                  refine stepIn_rows (.tmp 32) (.tmp 35) HOWA.out (by have := HBA.out.size; omega) (Src.one wr.drew (.slice A' k k) 40 rfl) (by omega) rfl rfl rfl rfl ?_
                  intro v1 w1 hown1 hg1 hat1
                  obtain ⟨A1, c1, rfl, hc1⟩ := own_form2 hown1
                  have hne : (Value.slice Ao N co').ownBlock ≠ some (w.heap.size + 2) := fun e => by have := HGO.out _ e; omega
                  have c2w := (cell_grown hg1 (p := ⟨w.heap.size + 2, 0, none⟩) (block_lt_of_cell hcA) (fun e => hne e.symm)).trans hcA
                  have f2w : w1.frozen? ⟨w.heap.size + 2, 0, none⟩ = false := (frozen_grown hg1 (p := ⟨w.heap.size + 2, 0, none⟩) (block_lt_of_cell hcA) (fun e => hne e.symm)).trans ((HBA.out.frozen (p := ⟨w.heap.size + 2, 0, none⟩) (block_lt_of_cell hc)).trans hf)
                  have hfin := And.intro (push_keep (w := wL) (bo := w.heap.size + 2) (q := w.heap.size + 1) (bx := w.heap.size + 3) (n0 := w.heap.size) (ov' := .slice A1 (N + 1) c1) (by omega) ⟨by omega, by omega⟩ ⟨by omega, by omega, by omega⟩ (by omega) HGO.out (by omega) HBA.out hg1) (And.intro (OutInv.push (w := wL) (bo := w.heap.size + 2) (q := w.heap.size + 1) (xss := pre.filter (accB R [])) (by omega) (by omega) (by omega) ⟨by omega, by omega⟩ HB.out HHF.out HHC.out (by rw [HN.out]; exact HOWN.out) HROWS.out HAPR.out HGO.out HX.out HXL.out HBA.out hlo (by rw [HN.out]; exact hown1) hg1 hat1) (push_cell (w := wL) (bo := w.heap.size + 2) (q := w.heap.size + 1) (p := w.heap.size) (ov' := .slice A1 (N + 1) c1) HGO.out (by omega) (by omega) (by omega) HBA.out hg1 HGC.out))
                  have HFIN := Lib.hid hfin
                  clear hfin hown1 hg1 hat1
                  go_simp
                  refine hK _ _ ?_
                  clear hK K
                  refine wpAnyIn_ready (rs := [5]) (by kernel_rfl) (by simp) ?_
                  refine AllReadyIn.cons rfl (fun K hK => ?_) ?_
                  · skip
                    go_simp
                    refine hK _ _ ?_
                    clear hK K
                    refine wpAnyIn_done (by kernel_rfl) ?_ _
                    have hgoal : permPost wL.heap.size (w.heap.size + 3) w.heap.size (fun acc V => OutInv w wL (w.heap.size + 2) (w.heap.size + 1) (acc.filter (accB R [])) V ∧ V.cell? ⟨w.heap.size, 0, none⟩ = some (.slice G 4 gc)) (pre ++ [x]) wr .normal { tmps := #[], defers := [] } (w1.setCell ⟨w.heap.size + 2, 0, none⟩ (.slice A1 (N + 1) c1)) := by
                      refine ⟨HFIN.out.1, ?_, HFIN.out.2.2⟩
                      show OutInv _ _ _ _ ((pre ++ [x]).filter (accB R [])) _
                      rw [HF.out]
                      exact HFIN.out.2.1
                    exact hgoal
                  exact AllReadyIn.nil
                exact AllReadyIn.nil
              exact AllReadyIn.nil
            exact AllReadyIn.nil
          exact AllReadyIn.nil
        refine AllReadyIn.cons rfl (fun K hK => ?_) ?_
        · skip
          go_simp
          refine hK _ _ ?_
          clear hK K
          refine wpAnyIn_ready (rs := [0, 2]) (by kernel_rfl) (by simp) ?_
          refine AllReadyIn.cons rfl (fun K hK => ?_) ?_
          · skip
            go_simp
            refine hK _ _ ?_
            clear hK K
            refine wpAnyIn_ready (rs := [2]) (by kernel_rfl) (by simp) ?_
            refine AllReadyIn.cons rfl (fun K hK => ?_) ?_
            · skip
              go_simp
              refine ⟨trivial, fun h => (by simp [Fence.wide] at h), ?_⟩
              gi_at_call 99
              refine (CallsIn.inRound l (callsIn_wide.2 (ClipO_any A' k c' _ (by omega) hc'))).mono ?_
              rintro e w' ⟨rfl, rfl⟩
              go_simp
              refine hK _ _ ?_
              clear hK K
              refine wpAnyIn_ready (rs := [3]) (by kernel_rfl) (by simp) ?_
              refine AllReadyIn.cons rfl (fun K hK => ?_) ?_
              · skip
                go_simp
                refine hK _ _ ?_
                clear hK K
                refine wpAnyIn_ready (rs := [4]) (by kernel_rfl) (by simp) ?_
                refine AllReadyIn.cons rfl (fun K hK => ?_) ?_
                · skip
                  refine stepIn_rows (.tmp 32) (.tmp 35) HOWA.out (by have := HBA.out.size; omega) (Src.one wr.drew (.slice A' k k) 40 rfl) (by omega) rfl rfl rfl rfl ?_
                  intro v1 w1 hown1 hg1 hat1
                  obtain ⟨A1, c1, rfl, hc1⟩ := own_form2 hown1
                  have hne : (Value.slice Ao N co').ownBlock ≠ some (w.heap.size + 2) := fun e => by have := HGO.out _ e; omega
                  have c2w := (cell_grown hg1 (p := ⟨w.heap.size + 2, 0, none⟩) (block_lt_of_cell hcA) (fun e => hne e.symm)).trans hcA
                  have f2w : w1.frozen? ⟨w.heap.size + 2, 0, none⟩ = false := (frozen_grown hg1 (p := ⟨w.heap.size + 2, 0, none⟩) (block_lt_of_cell hcA) (fun e => hne e.symm)).trans ((HBA.out.frozen (p := ⟨w.heap.size + 2, 0, none⟩) (block_lt_of_cell hc)).trans hf)
                  have hfin := And.intro (push_keep (w := wL) (bo := w.heap.size + 2) (q := w.heap.size + 1) (bx := w.heap.size + 3) (n0 := w.heap.size) (ov' := .slice A1 (N + 1) c1) (by omega) ⟨by omega, by omega⟩ ⟨by omega, by omega, by omega⟩ (by omega) HGO.out (by omega) HBA.out hg1) (And.intro (OutInv.push (w := wL) (bo := w.heap.size + 2) (q := w.heap.size + 1) (xss := pre.filter (accB R [])) (by omega) (by omega) (by omega) ⟨by omega, by omega⟩ HB.out HHF.out HHC.out (by rw [HN.out]; exact HOWN.out) HROWS.out HAPR.out HGO.out HX.out HXL.out HBA.out hlo (by rw [HN.out]; exact hown1) hg1 hat1) (push_cell (w := wL) (bo := w.heap.size + 2) (q := w.heap.size + 1) (p := w.heap.size) (ov' := .slice A1 (N + 1) c1) HGO.out (by omega) (by omega) (by omega) HBA.out hg1 HGC.out))
                  have HFIN := Lib.hid hfin
                  clear hfin hown1 hg1 hat1
                  go_simp
                  refine hK _ _ ?_
                  clear hK K
                  refine wpAnyIn_ready (rs := [5]) (by kernel_rfl) (by simp) ?_
                  refine AllReadyIn.cons rfl (fun K hK => ?_) ?_
                  · skip
                    go_simp
                    refine hK _ _ ?_
                    clear hK K
                    refine wpAnyIn_done (by kernel_rfl) ?_ _
                    have hgoal : permPost wL.heap.size (w.heap.size + 3) w.heap.size (fun acc V => OutInv w wL (w.heap.size + 2) (w.heap.size + 1) (acc.filter (accB R [])) V ∧ V.cell? ⟨w.heap.size, 0, none⟩ = some (.slice G 4 gc)) (pre ++ [x]) wr .normal { tmps := #[], defers := [] } (w1.setCell ⟨w.heap.size + 2, 0, none⟩ (.slice A1 (N + 1) c1)) := by
                      refine ⟨HFIN.out.1, ?_, HFIN.out.2.2⟩
                      show OutInv _ _ _ _ ((pre ++ [x]).filter (accB R [])) _
                      rw [HF.out]
                      exact HFIN.out.2.1
                    exact hgoal
                  exact AllReadyIn.nil
                exact AllReadyIn.nil
              exact AllReadyIn.nil
            exact AllReadyIn.nil
          refine AllReadyIn.cons rfl (fun K hK => ?_) ?_
          · skip
            go_simp
            refine ⟨trivial, fun h => (by simp [Fence.wide] at h), ?_⟩
            gi_at_call 99
            refine (CallsIn.inRound l (callsIn_wide.2 (ClipO_any A' k c' _ (by omega) hc'))).mono ?_
            rintro e w' ⟨rfl, rfl⟩
            go_simp
            refine hK _ _ ?_
            clear hK K
            refine wpAnyIn_ready (rs := [0, 3]) (by kernel_rfl) (by simp) ?_
            refine AllReadyIn.cons rfl (fun K hK => ?_) ?_
            · skip
              go_simp
              refine hK _ _ ?_
              clear hK K
              refine wpAnyIn_ready (rs := [3]) (by kernel_rfl) (by simp) ?_
              refine AllReadyIn.cons rfl (fun K hK => ?_) ?_
              · skip
                go_simp
                refine hK _ _ ?_
                clear hK K
                refine wpAnyIn_ready (rs := [4]) (by kernel_rfl) (by simp) ?_
                refine AllReadyIn.cons rfl (fun K hK => ?_) ?_
                · skip
                  refine stepIn_rows (.tmp 32) (.tmp 35) HOWA.out (by have := HBA.out.size; omega) (Src.one wr.drew (.slice A' k k) 40 rfl) (by omega) rfl rfl rfl rfl ?_
                  intro v1 w1 hown1 hg1 hat1
                  obtain ⟨A1, c1, rfl, hc1⟩ := own_form2 hown1
                  have hne : (Value.slice Ao N co').ownBlock ≠ some (w.heap.size + 2) := fun e => by have := HGO.out _ e; omega
                  have c2w := (cell_grown hg1 (p := ⟨w.heap.size + 2, 0, none⟩) (block_lt_of_cell hcA) (fun e => hne e.symm)).trans hcA
                  have f2w : w1.frozen? ⟨w.heap.size + 2, 0, none⟩ = false := (frozen_grown hg1 (p := ⟨w.heap.size + 2, 0, none⟩) (block_lt_of_cell hcA) (fun e => hne e.symm)).trans ((HBA.out.frozen (p := ⟨w.heap.size + 2, 0, none⟩) (block_lt_of_cell hc)).trans hf)
                  have hfin := And.intro (push_keep (w := wL) (bo := w.heap.size + 2) (q := w.heap.size + 1) (bx := w.heap.size + 3) (n0 := w.heap.size) (ov' := .slice A1 (N + 1) c1) (by omega) ⟨by omega, by omega⟩ ⟨by omega, by omega, by omega⟩ (by omega) HGO.out (by omega) HBA.out hg1) (And.intro (OutInv.push (w := wL) (bo := w.heap.size + 2) (q := w.heap.size + 1) (xss := pre.filter (accB R [])) (by omega) (by omega) (by omega) ⟨by omega, by omega⟩ HB.out HHF.out HHC.out (by rw [HN.out]; exact HOWN.out) HROWS.out HAPR.out HGO.out HX.out HXL.out HBA.out hlo (by rw [HN.out]; exact hown1) hg1 hat1) (push_cell (w := wL) (bo := w.heap.size + 2) (q := w.heap.size + 1) (p := w.heap.size) (ov' := .slice A1 (N + 1) c1) HGO.out (by omega) (by omega) (by omega) HBA.out hg1 HGC.out))
                  have HFIN := Lib.hid hfin
                  clear hfin hown1 hg1 hat1
                  go_simp
                  refine hK _ _ ?_
                  clear hK K
                  refine wpAnyIn_ready (rs := [5]) (by kernel_rfl) (by simp) ?_
                  refine AllReadyIn.cons rfl (fun K hK => ?_) ?_
                  · skip
                    go_simp
                    refine hK _ _ ?_
                    clear hK K
                    refine wpAnyIn_done (by kernel_rfl) ?_ _
                    have hgoal : permPost wL.heap.size (w.heap.size + 3) w.heap.size (fun acc V => OutInv w wL (w.heap.size + 2) (w.heap.size + 1) (acc.filter (accB R [])) V ∧ V.cell? ⟨w.heap.size, 0, none⟩ = some (.slice G 4 gc)) (pre ++ [x]) wr .normal { tmps := #[], defers := [] } (w1.setCell ⟨w.heap.size + 2, 0, none⟩ (.slice A1 (N + 1) c1)) := by
                      refine ⟨HFIN.out.1, ?_, HFIN.out.2.2⟩
                      show OutInv _ _ _ _ ((pre ++ [x]).filter (accB R [])) _
                      rw [HF.out]
                      exact HFIN.out.2.1
                    exact hgoal
                  exact AllReadyIn.nil
                exact AllReadyIn.nil
              exact AllReadyIn.nil
            refine AllReadyIn.cons rfl (fun K hK => ?_) ?_
            · skip
              go_simp
              refine hK _ _ ?_
              clear hK K
              refine wpAnyIn_ready (rs := [0]) (by kernel_rfl) (by simp) ?_
              refine AllReadyIn.cons rfl (fun K hK => ?_) ?_
              · skip
                go_simp
                refine hK _ _ ?_
                clear hK K
                refine wpAnyIn_ready (rs := [4]) (by kernel_rfl) (by simp) ?_
                refine AllReadyIn.cons rfl (fun K hK => ?_) ?_
                · skip
                  refine stepIn_rows (.tmp 32) (.tmp 35) HOWA.out (by have := HBA.out.size; omega) (Src.one wr.drew (.slice A' k k) 40 rfl) (by omega) rfl rfl rfl rfl ?_
                  intro v1 w1 hown1 hg1 hat1
                  obtain ⟨A1, c1, rfl, hc1⟩ := own_form2 hown1
                  have hne : (Value.slice Ao N co').ownBlock ≠ some (w.heap.size + 2) := fun e => by have := HGO.out _ e; omega
                  have c2w := (cell_grown hg1 (p := ⟨w.heap.size + 2, 0, none⟩) (block_lt_of_cell hcA) (fun e => hne e.symm)).trans hcA
                  have f2w : w1.frozen? ⟨w.heap.size + 2, 0, none⟩ = false := (frozen_grown hg1 (p := ⟨w.heap.size + 2, 0, none⟩) (block_lt_of_cell hcA) (fun e => hne e.symm)).trans ((HBA.out.frozen (p := ⟨w.heap.size + 2, 0, none⟩) (block_lt_of_cell hc)).trans hf)
                  have hfin := And.intro (push_keep (w := wL) (bo := w.heap.size + 2) (q := w.heap.size + 1) (bx := w.heap.size + 3) (n0 := w.heap.size) (ov' := .slice A1 (N + 1) c1) (by omega) ⟨by omega, by omega⟩ ⟨by omega, by omega, by omega⟩ (by omega) HGO.out (by omega) HBA.out hg1) (And.intro (OutInv.push (w := wL) (bo := w.heap.size + 2) (q := w.heap.size + 1) (xss := pre.filter (accB R [])) (by omega) (by omega) (by omega) ⟨by omega, by omega⟩ HB.out HHF.out HHC.out (by rw [HN.out]; exact HOWN.out) HROWS.out HAPR.out HGO.out HX.out HXL.out HBA.out hlo (by rw [HN.out]; exact hown1) hg1 hat1) (push_cell (w := wL) (bo := w.heap.size + 2) (q := w.heap.size + 1) (p := w.heap.size) (ov' := .slice A1 (N + 1) c1) HGO.out (by omega) (by omega) (by omega) HBA.out hg1 HGC.out))
                  have HFIN := Lib.hid hfin
                  clear hfin hown1 hg1 hat1
                  go_simp
                  refine hK _ _ ?_
                  clear hK K
                  refine wpAnyIn_ready (rs := [5]) (by kernel_rfl) (by simp) ?_
                  refine AllReadyIn.cons rfl (fun K hK => ?_) ?_
                  · skip
                    go_simp
                    refine hK _ _ ?_
                    clear hK K
                    refine wpAnyIn_done (by kernel_rfl) ?_ _
                    have hgoal : permPost wL.heap.size (w.heap.size + 3) w.heap.size (fun acc V => OutInv w wL (w.heap.size + 2) (w.heap.size + 1) (acc.filter (accB R [])) V ∧ V.cell? ⟨w.heap.size, 0, none⟩ = some (.slice G 4 gc)) (pre ++ [x]) wr .normal { tmps := #[], defers := [] } (w1.setCell ⟨w.heap.size + 2, 0, none⟩ (.slice A1 (N + 1) c1)) := by
                      refine ⟨HFIN.out.1, ?_, HFIN.out.2.2⟩
                      show OutInv _ _ _ _ ((pre ++ [x]).filter (accB R [])) _
                      rw [HF.out]
                      exact HFIN.out.2.1
                    exact hgoal
                  exact AllReadyIn.nil
                exact AllReadyIn.nil
              exact AllReadyIn.nil
            exact AllReadyIn.nil
          exact AllReadyIn.nil
        exact AllReadyIn.nil
end Go.Proofs.Ytkbclcgdkbhgdaa
namespace Go.Proofs.Ytkbclcgdkbhgdaa
open Go.RowKit Go.BigFrame
set_option linter.unusedVariables false

theorem graphOf_any' (A : Option Addr) (n c : Nat) (s : List OpV) (w : World) (hx : ROps w A n s) (hnc : n ≤ c) (hv : validS s = true) :
    Calls Try.prog 78 #[.slice A n c] w (RetInts w (rowsI (grI (committed s)))) := graphOf_any A n c s w hx hv

set_option maxHeartbeats 400000 in
theorem GraphOf_any (A : Option Addr) (n c : Nat) (s : List OpV) (w : World) (hx : ROps w A n s) (hnc : n ≤ c) :
    Calls Try.prog 34 #[.slice A n c] w (RetInts w (orNil (validS s) (rowsI (grI (committed s))))) := by
  have HX := Lib.hid hx
  clear hx
  go_enter Try.func34, Try.ntmps34
  go_wp2_with fail
  refine (ValidSchedule_any A n c s w HX.out hnc).mono ?_
  rintro e w1 ⟨rfl, hb⟩
  cases hv : validS s
  · have HV := Lib.hid hv
    clear hv
    go_wp2_with fail
    go_ret
    rw [HV.out]
    exact RetInts.nil hb
  · have HV := Lib.hid hv
    clear hv
    go_wp2_with fail
    refine (graphOf_any' A n c s w1 (HX.out.below hb (Nat.le_refl _)) hnc HV.out).mono ?_
    rintro e w2 hr
    obtain ⟨A', c', rfl, hr'⟩ := hr
    have HR : Hid (RetInts w1 (rowsI (grI (committed s))) (.returned (.slice A' ((rowsI (grI (committed s)))).length c')) w2) := ⟨A', c', rfl, hr'⟩
    clear hr'
    go_wp2_with fail
    go_ret
    rw [HV.out]
    exact RetInts.later hb HR.out


theorem RetListsA.from {w W w' : World} {xss : List (List Int)} {e : Ending} (hb : Below w.heap.size w W) (h : RetListsA W xss e w') : RetListsA w xss e w' := by
  obtain ⟨A6, c6, rv, rfl, h2, h3, h4, h5, h6⟩ := h
  have hs := hb.size
  exact ⟨A6, c6, rv, rfl, h2, ⟨h3.1, fun ad had => by obtain ⟨b, cur, e1, e2, e3⟩ := h3.2 ad had; exact ⟨b, cur, e1, by omega, e3⟩⟩, h4.since hs, h5, hb.trans (h6.mono hs)⟩
theorem RetLists.from {w W w' : World} {xss : List (List Int)} {e : Ending} (hb : Below w.heap.size w W) (h : RetLists W xss e w') : RetLists w xss e w' := by
  obtain ⟨A6, c6, rv, rfl, h2, h3, h4, h6⟩ := h
  have hs := hb.size
  exact ⟨A6, c6, rv, rfl, h2, ⟨h3.1, fun ad had => by obtain ⟨b, cur, e1, e2, e3⟩ := h3.2 ad had; exact ⟨b, cur, e1, by omega, e3⟩⟩, h4.since hs, hb.trans (h6.mono hs)⟩

set_option maxRecDepth 100000 in
set_option maxHeartbeats 1000000 in
theorem ordersOf_any (A : Option Addr) (n c : Nat) (s : List OpV) (w : World) (hx : ROps w A n s) (hv : validS s = true) :
    Calls Try.prog 68 #[.slice A n c] w (RetListsA w (ordO s)) := by
  have HX := Lib.hid hx
  have HV := Lib.hid hv
  clear hx hv
  go_enter Try.func68, Try.ntmps68
  go_wp2_with fail
  refine (committedOf_any A n c s w HX.out).mono ?_
  rintro e w1 ⟨C, cc, rfl, hcc, hf, hb1⟩
  have hf1 := hf.1
  have HT := Lib.hid (txsOf_any C (committed s).length cc (committed s) w1 hf1)
  clear hf
  go_wp2_with fail
  refine HT.out.mono ?_
  rintro e w2 ⟨L, lc, rfl, hlc, hf2, hb2⟩
  have hb12 := hb1.trans (hb2.mono hb1.size)
  have hG := graphOf_any A n c s w2 (HX.out.below hb12 (Nat.le_refl _)) HV.out
  have HG := Lib.hid hG
  have hL4 : (txsOf (committed s)).length ≤ 4 := txsOf_len _
  have HRL := Lib.hid (txsOf_rng0 (committed s))
  have HLR := Lib.hid hf2.1
  have HLB : Hid (∀ ad, L = some ad → ad.block < w2.heap.size) := FreshInts.blk hf2
  have HOO : Hid (ordO s = ordI (txsOf (committed s)) (grI (committed s))) := rfl
  have HR4 : Hid (Rows4 (grI (committed s))) := grI_ok (comm_tx4 HV.out)
  clear hf2 hG hf1 HT
  generalize txsOf (committed s) = LL at *
  go_wp2_with fail
  refine HG.out.mono ?_
  rintro e w3 ⟨G, gc, rfl, hgc, ⟨hg3, _⟩, hb3⟩
  have hlen : (rowsI (grI (committed s))).length = 4 := by simp [rowsI, HR4.out.1]
  rw [hlen] at hg3 hgc ⊢
  have hb13 := hb12.trans (hb3.mono hb12.size)
  have HO := Lib.hid (ordersBy_any L G LL.length lc gc LL (grI (committed s)) w3 (HLR.out.below hb3 (Nat.le_refl _)) (fun ad h => Nat.lt_of_lt_of_le (HLB.out ad h) hb3.size) hg3 HR4.out HRL.out hL4)
  rw [← HOO.out] at HO
  clear hg3 hlen hb3
  go_wp2_with fail
  refine HO.out.mono ?_
  intro e w4 hret
  obtain ⟨A6, c6, rv, rfl, h2, h3, h4, h5, h6⟩ := hret
  have HR : Hid (RetListsA w (ordO s) (.returned (.slice A6 (ordO s).length c6)) w4) := RetListsA.from hb13 ⟨A6, c6, rv, rfl, h2, h3, h4, h5, h6⟩
  clear h2 h3 h4 h5 h6 HO
  go_wp2_with fail
  go_ret
  exact HR.out

set_option maxRecDepth 100000 in
set_option maxHeartbeats 1000000 in
theorem OrdersOf_any (A : Option Addr) (n c : Nat) (s : List OpV) (w : World) (hx : ROps w A n s) (hnc : n ≤ c) :
    Calls Try.prog 23 #[.slice A n c] w (RetListsA w (orNil (validS s) (ordO s))) := by
  have HX := Lib.hid hx
  clear hx
  go_enter Try.func23, Try.ntmps23
  go_wp2_with fail
  refine (ValidSchedule_any A n c s w HX.out hnc).mono ?_
  rintro e w1 ⟨rfl, hb⟩
  cases hv : validS s
  · have HV := Lib.hid hv
    clear hv
    go_wp2_with fail
    go_ret
    rw [HV.out]
    exact RetListsA.nil hb
  · have HV := Lib.hid hv
    have HO := Lib.hid (ordersOf_any A n c s w1 (HX.out.below hb (Nat.le_refl _)) hv)
    clear hv
    go_wp2_with fail
    refine HO.out.mono ?_
    intro e w4 hret
    obtain ⟨A6, c6, rv, rfl, h2, h3, h4, h5, h6⟩ := hret
    have HR : Hid (RetListsA w (ordO s) (.returned (.slice A6 (ordO s).length c6)) w4) := RetListsA.from hb ⟨A6, c6, rv, rfl, h2, h3, h4, h5, h6⟩
    clear h2 h3 h4 h5 h6 HO
    go_wp2_with fail
    go_ret
    rw [HV.out]
    exact HR.out

set_option maxRecDepth 100000 in
set_option maxHeartbeats 1000000 in
theorem IsSerializable_any (A : Option Addr) (n c : Nat) (s : List OpV) (w : World) (hx : ROps w A n s) (hnc : n ≤ c) :
    Calls Try.prog 20 #[.slice A n c] w fun e w' => e = .returned (.bool (validS s && decide (0 < (ordO s).length))) ∧ Below w.heap.size w w' := by
  have HX := Lib.hid hx
  clear hx
  have hO := OrdersOf_any A n c s w HX.out hnc
  have HE : Hid ((validS s && decide (0 < (ordO s).length)) = decide (0 < (orNil (validS s) (ordO s)).length)) := by
    show _ = _
    cases validS s
    · rfl
    · simp [orNil]
  have HO := Lib.hid hO
  clear hO
  go_enter Try.func20, Try.ntmps20
  go_wp2_with fail
  refine HO.out.mono ?_
  intro e w4 hret
  obtain ⟨A6, c6, rv, rfl, h2, h3, h4, h5, h6⟩ := hret
  have hb := h6
  clear h3 h4 h5 h6
  obtain ⟨N, hN⟩ : ∃ N, (orNil (validS s) (ordO s)).length = N := ⟨_, rfl⟩
  rw [hN] at HE h2 ⊢
  clear hN HO
  go_wp2_with fail
  go_ret
  exact ⟨ret_bool HE.out.symm, hb⟩

/-! the reference -/
set_option maxRecDepth 100000 in
set_option maxHeartbeats 1000000 in
theorem sOrdersOf_any (A : Option Addr) (n c : Nat) (s : List OpV) (w : World) (hx : ROps w A n s) (hnc : n ≤ c) :
    Calls Try.prog 25 #[.slice A n c] w (RetLists w (orNil (validS s) (ordOS s))) := by
  have HX := Lib.hid hx
  clear hx
  go_enter Try.func25, Try.ntmps25
  go_wp2_with fail
  refine (svalid_any A n c s w HX.out).mono ?_
  rintro e w1 ⟨rfl, hb⟩
  cases hv : validS s
  · have HV := Lib.hid hv
    clear hv
    go_wp2_with fail
    go_ret
    rw [HV.out]
    exact RetLists.nil hb
  · have HV := Lib.hid hv
    have HC := Lib.hid (scommitted_any A n c s w1 (HX.out.below hb (Nat.le_refl _)))
    have hcv : ∀ o ∈ committed s, validOp o = true := fun o ho => validS_ops hv o (comm_sub ho)
    have HCV := Lib.hid hcv
    have HR4 : Hid (Rows4 (grI (committed s))) := grI_ok (comm_tx4 hv)
    have HOO : Hid (ordOS s = topF (txsOf (committed s)) (grI (committed s)) (txsOf (committed s)).length []) := rfl
    have HRL := Lib.hid (txsOf_rng0 (committed s))
    have hL4 : (txsOf (committed s)).length ≤ 4 := txsOf_len _
    clear hv hcv
    generalize committed s = K at *
    go_wp2_with fail
    refine HC.out.mono ?_
    rintro e w2 ⟨C, cc, rfl, hcc, ⟨hfc, _⟩, hb2⟩
    have HT := Lib.hid (stxs_any C K.length cc K w2 hfc)
    have HFC := Lib.hid hfc
    have hb02 := hb.trans (hb2.mono hb.size)
    clear hfc HC hb2
    go_wp2_with fail
    refine HT.out.mono ?_
    rintro e w3 ⟨L, lc, rfl, hlc, ⟨hfl, _⟩, hb3⟩
    have HG := Lib.hid (sgraph_any C K.length cc K w3 (HFC.out.below hb3 (Nat.le_refl _)) HCV.out)
    have HFL := Lib.hid hfl
    have hb03 := hb02.trans (hb3.mono hb02.size)
    clear hfl HT hb3 HFC
    generalize txsOf K = LL at *
    go_wp2_with fail
    refine HG.out.mono ?_
    rintro e w4 ⟨G, gc, rfl, hgc, ⟨hg4, _⟩, hb4⟩
    have hlen : (rowsI (grI K)).length = 4 := by simp [rowsI, HR4.out.1]
    rw [hlen] at hg4 hgc ⊢
    have hb04 := hb03.trans (hb4.mono hb03.size)
    have ha4 : Below w4.heap.size w4 (w4.alloc (.cells #[] 3)) := (Below.refl _ _).alloc (Nat.le_refl _) _
    have hT : TopAt L (some ⟨w4.heap.size, 0, none⟩) G LL.length 0 LL [] (grI K) (w4.alloc (.cells #[] 3)) := ⟨(HFL.out.below hb4 (Nat.le_refl _)).below ha4 (Nat.le_refl _), RInts.nil, hg4.below ha4 (Nat.le_refl _)⟩
    have HTOP := Lib.hid (top_any LL.length L (some ⟨w4.heap.size, 0, none⟩) G LL.length lc 0 0 gc LL [] (grI K) _ hT HR4.out HRL.out hL4 (by omega))
    rw [← HOO.out] at HTOP
    have HB : Hid (Below w.heap.size w (w4.alloc (.cells #[] 3))) := hb04.trans (ha4.mono hb04.size)
    clear hg4 hlen hb4 ha4 hT HG
    go_wp2_with fail
    refine HTOP.out.mono ?_
    intro e w6 hret
    obtain ⟨A6, c6, rv, rfl, h2, h3, h4, h6⟩ := hret
    have HR : Hid (RetLists w (ordOS s) (.returned (.slice A6 (ordOS s).length c6)) w6) := RetLists.from HB.out ⟨A6, c6, rv, rfl, h2, h3, h4, h6⟩
    clear h2 h3 h4 h6 HTOP
    go_wp2_with fail
    go_ret
    rw [HV.out]
    exact HR.out

set_option maxRecDepth 100000 in
set_option maxHeartbeats 1000000 in
theorem sserializable_any (A : Option Addr) (n c : Nat) (s : List OpV) (w : World) (hx : ROps w A n s) (hv : validS s = true) :
    Calls Try.prog 65 #[.slice A n c] w fun e w' => e = .returned (.bool (decide (0 < (ordOS s).length))) ∧ Below w.heap.size w w' := by
  have HX := Lib.hid hx
  have HC := Lib.hid (scommitted_any A n c s w hx)
  have hcv : ∀ o ∈ committed s, validOp o = true := fun o ho => validS_ops hv o (comm_sub ho)
  have HCV := Lib.hid hcv
  have HR4 : Hid (Rows4 (grI (committed s))) := grI_ok (comm_tx4 hv)
  have HOO : Hid (ordOS s = topF (txsOf (committed s)) (grI (committed s)) (txsOf (committed s)).length []) := rfl
  have HRL := Lib.hid (txsOf_rng0 (committed s))
  have hL4 : (txsOf (committed s)).length ≤ 4 := txsOf_len _
  clear hx hv hcv
  generalize committed s = K at *
  go_enter Try.func65, Try.ntmps65
  go_wp2_with fail
  refine HC.out.mono ?_
  rintro e w2 ⟨C, cc, rfl, hcc, ⟨hfc, _⟩, hb02⟩
  have HT := Lib.hid (stxs_any C K.length cc K w2 hfc)
  have HFC := Lib.hid hfc
  clear hfc HC
  go_wp2_with fail
  refine HT.out.mono ?_
  rintro e w3 ⟨L, lc, rfl, hlc, ⟨hfl, _⟩, hb3⟩
  have HG := Lib.hid (sgraph_any C K.length cc K w3 (HFC.out.below hb3 (Nat.le_refl _)) HCV.out)
  have HFL := Lib.hid hfl
  have hb03 := hb02.trans (hb3.mono hb02.size)
  clear hfl HT hb3 HFC
  generalize txsOf K = LL at *
  go_wp2_with fail
  refine HG.out.mono ?_
  rintro e w4 ⟨G, gc, rfl, hgc, ⟨hg4, _⟩, hb4⟩
  have hlen : (rowsI (grI K)).length = 4 := by simp [rowsI, HR4.out.1]
  rw [hlen] at hg4 hgc ⊢
  have hb04 := hb03.trans (hb4.mono hb03.size)
  have ha4 : Below w4.heap.size w4 (w4.alloc (.cells #[] 3)) := (Below.refl _ _).alloc (Nat.le_refl _) _
  have hT : TopAt L (some ⟨w4.heap.size, 0, none⟩) G LL.length 0 LL [] (grI K) (w4.alloc (.cells #[] 3)) := ⟨(HFL.out.below hb4 (Nat.le_refl _)).below ha4 (Nat.le_refl _), RInts.nil, hg4.below ha4 (Nat.le_refl _)⟩
  have HTOP := Lib.hid (top_any LL.length L (some ⟨w4.heap.size, 0, none⟩) G LL.length lc 0 0 gc LL [] (grI K) _ hT HR4.out HRL.out hL4 (by omega))
  rw [← HOO.out] at HTOP
  have HB : Hid (Below w.heap.size w (w4.alloc (.cells #[] 3))) := hb04.trans (ha4.mono hb04.size)
  clear hg4 hlen hb4 ha4 hT HG
  go_wp2_with fail
  refine HTOP.out.mono ?_
  intro e w6 hret
  obtain ⟨A6, c6, rv, rfl, h2, h3, h4, h6⟩ := hret
  have hb := HB.out.trans (h6.mono HB.out.size)
  clear h3 h4 h6 HTOP HOO
  obtain ⟨N, hN⟩ : ∃ N, (ordOS s).length = N := ⟨_, rfl⟩
  rw [hN] at h2 ⊢
  have HN := Lib.hid hN
  clear hN
  go_wp2_with fail
  go_ret
  exact ⟨ret_bool (by rw [HN.out]), hb⟩
set_option maxHeartbeats 1000000 in
theorem sIsSerializable_any (A : Option Addr) (n c : Nat) (s : List OpV) (w : World) (hx : ROps w A n s) (hnc : n ≤ c) :
    Calls Try.prog 21 #[.slice A n c] w fun e w' => e = .returned (.bool (validS s && decide (0 < (ordOS s).length))) ∧ Below w.heap.size w w' := by
  have HX := Lib.hid hx
  clear hx
  go_enter Try.func21, Try.ntmps21
  go_wp2_with fail
  refine (svalid_any A n c s w HX.out).mono ?_
  rintro e w1 ⟨rfl, hb⟩
  cases hv : validS s
  · have HV := Lib.hid hv
    clear hv
    go_wp2_with fail
    go_ret
    exact ⟨ret_bool (by rw [HV.out]; rfl), hb⟩
  · have HV := Lib.hid hv
    have HS := Lib.hid (sserializable_any A n c s w1 (HX.out.below hb (Nat.le_refl _)) hv)
    clear hv
    obtain ⟨B, hB⟩ : ∃ B, decide (0 < (ordOS s).length) = B := ⟨_, rfl⟩
    rw [hB] at HS
    have HBB := Lib.hid hB
    clear hB
    go_wp2_with fail
    refine HS.out.mono ?_
    rintro e w2 ⟨rfl, hb2⟩
    go_wp2_with fail
    go_ret
    exact ⟨ret_bool (by rw [HV.out, HBB.out]; rfl), hb.trans (hb2.mono hb.size)⟩
end Go.Proofs.Ytkbclcgdkbhgdaa
namespace Go.Proofs.Ytkbclcgdkbhgdaa
open Go.RowKit Go.BigFrame
set_option linter.unusedVariables false

set_option maxHeartbeats 400000 in
theorem szOpS_any (A : Option Addr) (n c : Nat) (left : Int) (w : World) (h0 : 0 ≤ left) (h1 : left ≤ 1048576) (hn : n ≤ 9223372036854775807) :
    Calls Try.prog 14 #[.slice A n c, .int .i64 left] w fun e w' => e = .returned (.int .i64 (if left < n then -1 else left - n)) ∧ w = w' := by
  by_cases hl : left < n
  · rw [if_pos hl]
    go_enter Try.func14, Try.ntmps14
    go_wp2_with fail
    go_ret
    exact ⟨rfl, rfl⟩
  · rw [if_neg hl]
    go_enter Try.func14, Try.ntmps14
    go_wp2_with fail
    go_ret
    exact ⟨rfl, rfl⟩

set_option maxHeartbeats 400000 in
theorem toOp_any (o : OpV) (w : World) :
    Calls Try.prog 59 #[o.val] w fun e w' => e = .returned o.val ∧ Below w.heap.size w w' := by
  obtain ⟨t, k, x⟩ := o
  unfold OpV.val
  go_enter Try.func59, Try.ntmps59
  go_wp2_with fail
  (try simp only [Exit.inBlock, Exit.then])
  refine bodyPost_ret (v := .agg #[.int .i64 t, .int .i64 k, .int .i64 x]) (by simp [results, Try.results59, go_sem]) rfl ?_
  exact ⟨rfl, by (repeat (first | exact Below.refl _ _ | assumption | refine B_alloc ?_ (Nat.le_refl _) _ | refine Below.drew ?_ | refine B_drewN ?_ _ | refine B_after (by assumption) ?_ | (refine B_set ?_ ?_; rotate_left; (first | exact Nat.le_refl _ | (simp; done) | (simp at *; omega)))))⟩

set_option maxHeartbeats 400000 in
theorem eqOp_any (o p : OpV) (w : World) :
    Calls Try.prog 62 #[o.val, p.val] w fun e w' => e = .returned (.bool (o == p)) ∧ Below w.heap.size w w' := by
  obtain ⟨t, k, x⟩ := o
  obtain ⟨t', k', x'⟩ := p
  unfold OpV.val
  have hq : Hid (((⟨t, k, x⟩ : OpV) == ⟨t', k', x'⟩) = (t == t' && k == k' && x == x')) := by
    show _ = _
    rw [Bool.eq_iff_iff]; simp [and_assoc]
  by_cases h1 : t = t' <;> by_cases h2 : k = k' <;> by_cases h3 : x = x'
  all_goals
    go_enter Try.func62, Try.ntmps62
    go_wp2_with fail
    go_ret
    exact ⟨ret_bool (by rw [hq.out]; simp [h1, h2, h3]), by (repeat (first | exact Below.refl _ _ | assumption | refine B_alloc ?_ (Nat.le_refl _) _ | refine Below.drew ?_ | refine B_drewN ?_ _ | refine B_after (by assumption) ?_ | (refine B_set ?_ ?_; rotate_left; (first | exact Nat.le_refl _ | (simp; done) | (simp at *; omega)))))⟩

set_option maxRecDepth 100000 in
set_option maxHeartbeats 1000000 in
theorem toOpS_any (A : Option Addr) (n c : Nat) (s : List OpV) (w : World) (hx : ROps w A n s) (hm : n ≤ 1048576) :
    Calls Try.prog 16 #[.slice A n c] w (RetOps w s) := by
  have hl := hx.1
  have HX := Lib.hid hx
  clear hx
  obtain ⟨i0, hi, hz0, hz1, hz2⟩ := info_parts opInfo
  go_enter Try.func16, Try.ntmps16
  go_wp2_with (at_make; refine wpList_make_full _ rfl _ _ 25 rfl w.heap.size 32 i0 _ 3 Try.underlying25 hi hz0 hz1 .i64 .i64 _ _ n rfl rfl rfl rfl (by rw [hz2]; omega) (by unfold maxLen; omega) (Nat.le_refl _) ?_; intro w1 hown1 hg1)
  have hb1 : Below w.heap.size w w1 := ⟨hg1.os, hg1.tape, hg1.output, hg1.size, fun k hk => hg1.block k hk (by simp)⟩
  have hrow : ∃ cur : Array Value, w1.heap[w.heap.size]? = some (.cells cur 32 (0, 0)) ∧ cur.toList = opCells (List.replicate n OpV.zero) := by
    rcases hown1.2 with ⟨h1, _⟩ | ⟨g, cap, cur, h1, h2, h3, h4, h5, h6, h7⟩
    · cases h1
    · injection h1 with ha hb hc
      injection ha with ha
      injection ha with ha
      subst ha; subst hc
      refine ⟨cur, h3, ?_⟩
      rw [opCells_zero]
      have : cur.toList = cur.toList.take (n * 3) := by rw [List.take_of_length_le (by simpa using Nat.le_of_eq h6)]
      rw [this, h7]
      apply List.ext_getElem?
      intro j
      rw [List.getElem?_replicate]
      split
      · rename_i hj
        rw [List.getElem?_eq_getElem (by simpa [size_madeCells] using hj)]
        simp only [madeCells, Array.getElem_toList, Array.getElem_map, Array.getElem_range]
        congr 1
        show (#[Value.int .i64 0, .int .i64 0, .int .i64 0] : Array Value)[j % 3]! = _
        rcases (by omega : j % 3 = 0 ∨ j % 3 = 1 ∨ j % 3 = 2) with e | e | e <;> rw [e] <;> rfl
      · rename_i hj
        rw [List.getElem?_eq_none (by simpa [size_madeCells] using hj)]
  have HST : Hid (RowIs w1 w.heap.size 32 (opCells (s.take 0 ++ List.replicate n OpV.zero) ++ []) ∧ Below w.heap.size w w1) := by
    obtain ⟨cur, h1, h2⟩ := hrow
    refine ⟨?_, hb1⟩
    unfold RowIs
    rw [h1]
    simp [← h2]
  clear hown1 hb1 hg1 hrow hi hz0 hz1 hz2
  go_loopw [4] (fun i wr => ∃ k : Nat, k ≤ n ∧ i = .int .i64 k ∧ Below w.heap.size w wr ∧ RowIs wr w.heap.size 32 (opCells (s.take k ++ List.replicate (n - k) OpV.zero) ++ [])) (fun i _ => n - (intOf i).toNat)
  case atStart => exact ⟨0, Nat.zero_le _, rfl, HST.out.2, HST.out.1⟩
  case round =>
    clear HST
    obtain ⟨wo, rfl⟩ : ∃ wo : World, wo = wr := ⟨_, rfl⟩
    obtain ⟨k, hk, rfl, hb, hrow⟩ := hrel
    by_cases hlt : k < n
    · obtain ⟨b, off, o, rfl, hbl, ho, c0, c1, c2⟩ := (HX.out.below hb (Nat.le_refl _)).at_ hlt
      have hs := hb.size
      have hC : ∀ W, Calls Try.prog 59 #[.agg #[.int .i64 o.tx, .int .i64 o.kind, .int .i64 o.item]] W fun e w' => e = .returned (.agg #[.int .i64 o.tx, .int .i64 o.kind, .int .i64 o.item]) ∧ Below W.heap.size W w' := toOp_any o
      have HC := Lib.hid hC
      have hlen : k < (s.take k ++ List.replicate (n - k) OpV.zero).length := by simp; omega
      have HE : Hid ((s.take k ++ List.replicate (n - k) OpV.zero).set k o = s.take (k + 1) ++ List.replicate (n - (k + 1)) OpV.zero) := by
        show _ = _
        rw [show n - k = (n - (k + 1)) + 1 by omega, set_snoc _ _ _ _ _ ho]
      have HR := Lib.hid hrow
      clear ho hC hrow
      obtain ⟨tx, kd, it⟩ := o
      go_wp2_with fail
      refine (HC.out _).mono ?_
      rintro e w2 ⟨rfl, hb2⟩
      have hrow2 := HR.out.below hb2 (Nat.le_refl _)
      have HR2 := Lib.hid hrow2
      have hbw := hb.trans (hb2.mono hs)
      clear hrow2
      go_wp2_with (refine store_op (.tmp 21) (.tmp 20) ⟨tx, kd, it⟩ HR2.out hlen rfl rfl rfl rfl ?_; intro w3 hrow3 hg3; rw [HE.out] at hrow3)
      go_roundw
      case rel => exact ⟨k + 1, by omega, by go_num, hbw.grown hg3 hbw.size (fun q hq => by injection hq with hq; omega), hrow3⟩
      case measure => simp [intOf]; omega
    · obtain rfl : k = n := by omega
      have e : s.take k ++ List.replicate (k - k) OpV.zero = s := by rw [Nat.sub_self, List.take_of_length_le (by omega)]; simp
      rw [e] at hrow
      have hlt2 := hrow.lt
      have HO : Hid (RetOps w s (.returned (.slice (some ⟨w.heap.size, 0, none⟩) k k)) wo) := by
        refine RetOps.mk hl (Nat.le_refl _) ⟨hrow.ops hl (by omega), fun ad had => ?_⟩ hb
        injection had with had
        subst had
        exact ⟨_, _, rfl, Nat.le_refl _, hrow, by simp [length_opCells]; omega⟩
      clear hrow e
      go_wp2_with fail
      go_ret
      exact HO.out
end Go.Proofs.Ytkbclcgdkbhgdaa
namespace Go.Proofs.Ytkbclcgdkbhgdaa
open Go.RowKit Go.BigFrame
set_option linter.unusedVariables false

set_option maxHeartbeats 400000 in
theorem eqIntS_any (A B : Option Addr) (n m c d : Nat) (xs ys : List Int) (w : World) (hx : RInts w A n xs) (hy : RInts w B m ys) :
    Calls Try.prog 74 #[.slice A n c, .slice B m d] w fun e w' => e = .returned (.bool (xs == ys)) ∧ Below w.heap.size w w' := by
  have hn := hx.2.1
  have hl := hx.1
  have hm := hy.2.1
  have hly := hy.1
  have HX := Lib.hid hx
  have HY := Lib.hid hy
  clear hx hy
  by_cases hnm : n = m
  · subst hnm
    go_enter Try.func74, Try.ntmps74
    go_wp2_with fail
    go_loopw [5] (fun i wr => ∃ k : Nat, k ≤ n ∧ i = .int .i64 k ∧ Below w.heap.size w wr ∧ ∀ j, j < k → xs[j]? = ys[j]?) (fun i _ => n - (intOf i).toNat)
    case atStart => exact ⟨0, Nat.zero_le _, rfl, Below.refl _ _, by omega⟩
    case round =>
      obtain ⟨k, hk, rfl, hb, hno⟩ := hrel
      by_cases hlt : k < n
      · obtain ⟨b, off, x, rfl, hbl, hox, c0⟩ := (HX.out.below hb (Nat.le_refl _)).at_ hlt
        obtain ⟨b', off', y, rfl, hbl', hoy, d0⟩ := (HY.out.below hb (Nat.le_refl _)).at_ hlt
        have HN : Hid (x = y → ∀ j, j < k + 1 → xs[j]? = ys[j]?) := fun h j hj => by
          by_cases e : j = k
          · subst e; rw [hox, hoy, h]
          · exact hno j (by omega)
        have HT : Hid (¬ x = y → (xs == ys) = false) := fun h => by
          rw [beq_eq_false_iff_ne]
          intro e
          rw [e, hoy] at hox
          injection hox with hox
          exact h hox.symm
        have L0 := Later.cell c0
        have M0 := Later.cell d0
        have hki : (k : Int) < (n : Int) := by omega
        clear hno hox hoy c0 d0
        by_cases h1 : x = y
        · have hs := Lib.hid (HN.out h1)
          subst h1
          go_wp2_with fail
          refine region_later (by kernel_rfl) (by kernel_rfl) ?_
          repeat (go_big_quiet_step (fail))
          refine wpQuiet_nil ?_
          rintro _ ⟨u, rfl⟩
          have hbu := hb.trans (u.2.mono hb.size)
          go_wp2_with fail
          go_roundw
          case rel => exact ⟨k + 1, by omega, by go_num, hbu, hs.out⟩
          case measure => simp [intOf]; omega
        · have hs := Lib.hid (HT.out h1)
          have h1' : (x != y) = true := by simpa using h1
          go_wp2_with fail
          refine region_later (by kernel_rfl) (by kernel_rfl) ?_
          repeat (go_big_quiet_step (fail))
          refine wpQuiet_nil ?_
          rintro _ ⟨u, rfl⟩
          have hbu := hb.trans (u.2.mono hb.size)
          go_wp2_with fail
          go_ret
          exact ⟨ret_bool hs.out.symm, hbu⟩
      · have hs : Hid ((xs == ys) = true) := by
          show _ = _
          rw [beq_iff_eq]
          exact eq_of_get (by omega) (fun j hj => hno j (by omega))
        clear hno
        go_wp2_with fail
        go_ret
        exact ⟨ret_bool hs.out.symm, hb⟩
  · have hs : Hid ((xs == ys) = false) := by
      show _ = _
      rw [beq_eq_false_iff_ne]
      intro e
      rw [e] at hl
      omega
    go_enter Try.func74, Try.ntmps74
    go_wp2_with fail
    go_ret
    exact ⟨ret_bool hs.out.symm, Below.refl _ _⟩


set_option maxHeartbeats 1000000 in
theorem eqOpS_any (A B : Option Addr) (n m c d : Nat) (xs ys : List OpV) (w : World) (hx : ROps w A n xs) (hy : ROps w B m ys) :
    Calls Try.prog 18 #[.slice A n c, .slice B m d] w fun e w' => e = .returned (.bool (xs == ys)) ∧ Below w.heap.size w w' := by
  have hn := hx.2.1
  have hl := hx.1
  have hm := hy.2.1
  have hly := hy.1
  have HX := Lib.hid hx
  have HY := Lib.hid hy
  clear hx hy
  by_cases hnm : n = m
  · subst hnm
    go_enter Try.func18, Try.ntmps18
    go_wp2_with fail
    go_loopw [5] (fun i wr => ∃ k : Nat, k ≤ n ∧ i = .int .i64 k ∧ Below w.heap.size w wr ∧ ∀ j, j < k → xs[j]? = ys[j]?) (fun i _ => n - (intOf i).toNat)
    case atStart => exact ⟨0, Nat.zero_le _, rfl, Below.refl _ _, by omega⟩
    case round =>
      obtain ⟨k, hk, rfl, hb, hno⟩ := hrel
      by_cases hlt : k < n
      · obtain ⟨b, off, x, rfl, hbl, hox, c0, c1, c2⟩ := (HX.out.below hb (Nat.le_refl _)).at_ hlt
        obtain ⟨b', off', y, rfl, hbl', hoy, d0, d1, d2⟩ := (HY.out.below hb (Nat.le_refl _)).at_ hlt
        have HN : Hid (x = y → ∀ j, j < k + 1 → xs[j]? = ys[j]?) := fun h j hj => by
          by_cases e : j = k
          · subst e; rw [hox, hoy, h]
          · exact hno j (by omega)
        have HT : Hid (¬ x = y → (xs == ys) = false) := fun h => by
          rw [beq_eq_false_iff_ne]
          intro e
          rw [e, hoy] at hox
          injection hox with hox
          exact h hox.symm
        have L0 := Later.cell c0
        have L1 := Later.cell c1
        have L2 := Later.cell c2
        have M0 := Later.cell d0
        have M1 := Later.cell d1
        have M2 := Later.cell d2
        have hki : (k : Int) < (n : Int) := by omega
        obtain ⟨bb, hbb⟩ : ∃ bb, (x == y) = bb := ⟨_, rfl⟩
        have hC : ∀ u : Later wr, Calls Try.prog 62 #[.agg #[.int .i64 x.tx, .int .i64 x.kind, .int .i64 x.item], .agg #[.int .i64 y.tx, .int .i64 y.kind, .int .i64 y.item]] u.1 fun e w' => e = .returned (.bool bb) ∧ Below u.1.heap.size u.1 w' := fun u => by
          have := eqOp_any x y u.1; rw [hbb] at this; exact this
        have HC := Lib.hid hC
        have HB := Lib.hid hbb
        clear hno hox hoy c0 c1 c2 d0 d1 d2 hC hbb
        cases bb
        · have hs := Lib.hid (HT.out (by simpa using HB.out))
          obtain ⟨x0, x1, x2⟩ := x
          obtain ⟨y0, y1, y2⟩ := y
          go_wp2_with fail
          refine region_later (by kernel_rfl) (by kernel_rfl) ?_
          repeat (go_big_quiet_step ((go_at_call 62; exact later_call _ (HC.out _))))
          refine wpQuiet_nil ?_
          rintro _ ⟨u, rfl⟩
          have hbu := hb.trans (u.2.mono hb.size)
          go_wp2_with fail
          go_ret
          exact ⟨ret_bool hs.out.symm, hbu⟩
        · have hs := Lib.hid (HN.out (by simpa using HB.out))
          obtain ⟨x0, x1, x2⟩ := x
          obtain ⟨y0, y1, y2⟩ := y
          go_wp2_with fail
          refine region_later (by kernel_rfl) (by kernel_rfl) ?_
          repeat (go_big_quiet_step ((go_at_call 62; exact later_call _ (HC.out _))))
          refine wpQuiet_nil ?_
          rintro _ ⟨u, rfl⟩
          have hbu := hb.trans (u.2.mono hb.size)
          go_wp2_with fail
          go_roundw
          case rel => exact ⟨k + 1, by omega, by go_num, hbu, hs.out⟩
          case measure => simp [intOf]; omega
      · have hs : Hid ((xs == ys) = true) := by
          show _ = _
          rw [beq_iff_eq]
          exact eq_of_get (by omega) (fun j hj => hno j (by omega))
        clear hno
        go_wp2_with fail
        go_ret
        exact ⟨ret_bool hs.out.symm, hb⟩
  · have hs : Hid ((xs == ys) = false) := by
      show _ = _
      rw [beq_eq_false_iff_ne]
      intro e
      rw [e] at hl
      omega
    go_enter Try.func18, Try.ntmps18
    go_wp2_with fail
    go_ret
    exact ⟨ret_bool hs.out.symm, Below.refl _ _⟩

/-- The marks that are laid into a list. -/
def mkOps (k : Int) : Nat → List OpV
  | 0 => []
  | n + 1 => mkOps k n ++ [⟨k + 3 * n, k + 3 * n + 1, k + 3 * n + 2⟩]
def mkInts (k : Int) : Nat → List Int
  | 0 => []
  | n + 1 => mkInts k n ++ [k + n]
theorem mkOps_len (k : Int) (n : Nat) : (mkOps k n).length = n := by induction n with
  | zero => rfl
  | succ n ih => simp [mkOps, ih]
theorem mkInts_len (k : Int) (n : Nat) : (mkInts k n).length = n := by induction n with
  | zero => rfl
  | succ n ih => simp [mkInts, ih]
theorem mkOps_at (k : Int) (n : Nat) : ∀ i, i < n → (mkOps k n)[i]? = some ⟨k + 3 * i, k + 3 * i + 1, k + 3 * i + 2⟩ := by
  induction n with
  | zero => intro i h; omega
  | succ n ih =>
    intro i h
    simp only [mkOps]
    by_cases e : i = n
    · subst e; rw [List.getElem?_append_right (by rw [mkOps_len]; omega), mkOps_len]; simp
    · rw [List.getElem?_append_left (by rw [mkOps_len]; omega)]; exact ih i (by omega)
theorem mkInts_at (k : Int) (n : Nat) : ∀ i, i < n → (mkInts k n)[i]? = some (k + i) := by
  induction n with
  | zero => intro i h; omega
  | succ n ih =>
    intro i h
    simp only [mkInts]
    by_cases e : i = n
    · subst e; rw [List.getElem?_append_right (by rw [mkInts_len]; omega), mkInts_len]; simp
    · rw [List.getElem?_append_left (by rw [mkInts_len]; omega)]; exact ih i (by omega)
theorem set_mid {α : Type} {zs xs : List α} {k : Nat} (hl : zs.length = k) (hk : k < xs.length) (v : α) : (zs ++ xs.drop k).set k v = (zs ++ [v]) ++ xs.drop (k + 1) := by
  rw [List.set_append_right _ _ (by omega), hl, Nat.sub_self, List.drop_eq_getElem_cons hk, List.set_cons_zero, List.append_assoc]; rfl

def MarkedOps (A : Option Addr) (n : Nat) (k : Int) (w : World) (e : Ending) (w' : World) : Prop :=
  e = .returned (.int .i64 (k + 3 * n)) ∧ ROps w' A n (mkOps k n) ∧ w.grownBy w' (A.map Addr.block)
def MarkedInts (A : Option Addr) (n : Nat) (k : Int) (w : World) (e : Ending) (w' : World) : Prop :=
  e = .returned (.int .i64 (k + n)) ∧ RInts w' A n (mkInts k n) ∧ w.grownBy w' (A.map Addr.block)

set_option maxRecDepth 100000 in
set_option maxHeartbeats 1000000 in
theorem markIntS_any (A : Option Addr) (n c : Nat) (xs : List Int) (k0 : Int) (w0 w : World) (hx : FreshInts w0 w A n xs) (h0 : 0 ≤ k0) (h1 : k0 ≤ 1099511627776) :
    Calls Try.prog 75 #[.slice A n c, .int .i64 k0] w (MarkedInts A n k0 w) := by
  have hn := hx.1.2.1
  have hl := hx.1.1
  rcases Nat.eq_zero_or_pos n with hz | hz
  · subst hz
    clear hx
    go_enter Try.func75, Try.ntmps75
    go_wp2_with fail
    go_loopw [1, 5] (fun kv i wr => i = .int .i64 0 ∧ kv = .int .i64 k0 ∧ wr = w) (fun _ _ _ => 0)
    case atStart => exact ⟨rfl, rfl, rfl⟩
    case round =>
      obtain ⟨rfl, rfl, rfl⟩ := hrel
      go_wp2_with fail
      go_ret
      exact ⟨ret_int (by simp), RInts.nil, World.grownBy.refl _ _⟩
  · obtain ⟨g, rest, rfl, hge, hrow⟩ := hx.row hz
    have HST : Hid (RowIs w g 3 (intCells (mkInts k0 0 ++ xs.drop 0) ++ rest)) := by (show RowIs _ _ _ _); simpa [mkInts] using hrow
    clear hx hrow
    go_enter Try.func75, Try.ntmps75
    go_wp2_with fail
    go_loopw [1, 5] (fun kv i wr => ∃ k : Nat, k ≤ n ∧ i = .int .i64 k ∧ kv = .int .i64 (k0 + k) ∧ w.grownBy wr (some g) ∧ RowIs wr g 3 (intCells (mkInts k0 k ++ xs.drop k) ++ rest)) (fun _ i _ => n - (intOf i).toNat)
    case atStart => exact ⟨0, Nat.zero_le _, rfl, by simp, World.grownBy.refl _ _, HST.out⟩
    case round =>
      clear HST
      obtain ⟨k, hk, rfl, rfl, hg, hrow⟩ := hrel
      by_cases hlt : k < n
      · have hr2 := row_setInt (v := k0 + k) (k := k) hrow (by simp [mkInts_len]; omega)
        rw [set_mid (mkInts_len k0 k) (by omega)] at hr2
        obtain ⟨v, hv⟩ : ∃ v, wr.cell? ⟨g, k, none⟩ = some v := ⟨_, hrow.cell (List.getElem?_eq_getElem (by simp [intCells, mkInts_len]; omega))⟩
        have hfz := hrow.frozen k
        have HR := Lib.hid hr2
        clear hrow hr2
        go_wp2_with fail
        go_roundw
        case rel => exact ⟨k + 1, by omega, by go_num, by first | (congr 1; omega) | go_num, hg.trans grown_set, HR.out⟩
        case measure => simp [intOf]; omega
      · obtain rfl : k = n := by omega
        have HF : Hid (RInts wr (some ⟨g, 0, none⟩) k (mkInts k0 k)) := RowIs.ints (rest := rest) (by simpa [List.drop_of_length_le (show xs.length ≤ k by omega)] using hrow) (mkInts_len _ _) hn
        clear hrow
        go_wp2_with fail
        go_ret
        exact ⟨rfl, HF.out, hg⟩

set_option maxRecDepth 100000 in
set_option maxHeartbeats 1000000 in
theorem markOpS_any (A : Option Addr) (n c : Nat) (xs : List OpV) (k0 : Int) (w0 w : World) (hx : FreshOps w0 w A n xs) (h0 : 0 ≤ k0) (h1 : k0 ≤ 1099511627776) :
    Calls Try.prog 27 #[.slice A n c, .int .i64 k0] w (MarkedOps A n k0 w) := by
  have hn := hx.1.2.1
  have hl := hx.1.1
  rcases Nat.eq_zero_or_pos n with hz | hz
  · subst hz
    clear hx
    go_enter Try.func27, Try.ntmps27
    go_wp2_with fail
    go_loopw [1, 5] (fun kv i wr => i = .int .i64 0 ∧ kv = .int .i64 k0 ∧ wr = w) (fun _ _ _ => 0)
    case atStart => exact ⟨rfl, rfl, rfl⟩
    case round =>
      obtain ⟨rfl, rfl, rfl⟩ := hrel
      go_wp2_with fail
      go_ret
      exact ⟨ret_int (by simp), ROps.nil, World.grownBy.refl _ _⟩
  · obtain ⟨g, rest, rfl, hge, hrow⟩ := hx.row hz
    have HST : Hid (RowIs w g 32 (opCells (mkOps k0 0 ++ xs.drop 0) ++ rest)) := by (show RowIs _ _ _ _); simpa [mkOps] using hrow
    clear hx hrow
    go_enter Try.func27, Try.ntmps27
    go_wp2_with fail
    go_loopw [1, 5] (fun kv i wr => ∃ k : Nat, k ≤ n ∧ i = .int .i64 k ∧ kv = .int .i64 (k0 + 3 * k) ∧ w.grownBy wr (some g) ∧ RowIs wr g 32 (opCells (mkOps k0 k ++ xs.drop k) ++ rest)) (fun _ i _ => n - (intOf i).toNat)
    case atStart => exact ⟨0, Nat.zero_le _, rfl, by simp, World.grownBy.refl _ _, HST.out⟩
    case round =>
      clear HST
      obtain ⟨k, hk, rfl, rfl, hg, hrow⟩ := hrel
      by_cases hlt : k < n
      · have hlen : (opCells (mkOps k0 k ++ xs.drop k)).length = n * 3 := by rw [length_opCells]; simp [mkOps_len]; omega
        have hr1 := hrow.set (k * 3) (.int .i64 (k0 + 3 * k))
        have hr2 := hr1.set (k * 3 + 1) (.int .i64 (k0 + 3 * k + 1))
        have hr3 := hr2.set (k * 3 + 2) (.int .i64 (k0 + 3 * k + 1 + 1))
        obtain ⟨v0, z0⟩ : ∃ v, wr.cell? ⟨g, k * 3, none⟩ = some v := ⟨_, hrow.cell (List.getElem?_eq_getElem (by simp [hlen]; omega))⟩
        obtain ⟨v1, z1⟩ : ∃ v, (wr.setCell ⟨g, k * 3, none⟩ (.int .i64 (k0 + 3 * k))).cell? ⟨g, k * 3 + 1, none⟩ = some v := ⟨_, hr1.cell (List.getElem?_eq_getElem (by simp [hlen]; omega))⟩
        obtain ⟨v2, z2⟩ : ∃ v, ((wr.setCell ⟨g, k * 3, none⟩ (.int .i64 (k0 + 3 * k))).setCell ⟨g, k * 3 + 1, none⟩ (.int .i64 (k0 + 3 * k + 1))).cell? ⟨g, k * 3 + 2, none⟩ = some v := ⟨_, hr2.cell (List.getElem?_eq_getElem (by simp [hlen]; omega))⟩
        have f0 := hrow.frozen (k * 3)
        have f1 := hr1.frozen (k * 3 + 1)
        have f2 := hr2.frozen (k * 3 + 2)
        have HR : Hid (RowIs (((wr.setCell ⟨g, k * 3, none⟩ (.int .i64 (k0 + 3 * k))).setCell ⟨g, k * 3 + 1, none⟩ (.int .i64 (k0 + 3 * k + 1))).setCell ⟨g, k * 3 + 2, none⟩ (.int .i64 (k0 + 3 * k + 1 + 1))) g 32 (opCells (mkOps k0 (k + 1) ++ xs.drop (k + 1)) ++ rest)) := by
          have h4 := hr3
          rw [List.set_append_left _ _ (by omega), List.set_append_left _ _ (by simp; omega), List.set_append_left _ _ (by simp; omega)] at h4
          have e := opCells_put (mkOps k0 k ++ xs.drop k) k ⟨k0 + 3 * k, k0 + 3 * k + 1, k0 + 3 * k + 1 + 1⟩
          rw [set_mid (mkOps_len k0 k) (by omega)] at e
          rw [← e] at h4
          have e2 : k0 + 3 * (k : Int) + 1 + 1 = k0 + 3 * k + 2 := by omega
          rw [e2] at h4
          rw [e2]
          exact h4
        clear hrow hr1 hr2 hr3 hlen
        go_wp2_with fail
        go_roundw
        case rel => exact ⟨k + 1, by omega, by go_num, by first | (congr 1; omega) | go_num, ((hg.trans grown_set).trans grown_set).trans grown_set, HR.out⟩
        case measure => simp [intOf]; omega
      · obtain rfl : k = n := by omega
        have HF : Hid (ROps wr (some ⟨g, 0, none⟩) k (mkOps k0 k)) := RowIs.ops (rest := rest) (by simpa [List.drop_of_length_le (show xs.length ≤ k by omega)] using hrow) (mkOps_len _ _) hn
        clear hrow
        go_wp2_with fail
        go_ret
        exact ⟨rfl, HF.out, hg⟩

set_option maxHeartbeats 400000 in
theorem heldIntS_any (A : Option Addr) (n c : Nat) (k0 : Int) (w : World) (hx : RInts w A n (mkInts k0 n)) (h0 : 0 ≤ k0) (h1 : k0 ≤ 1099511627776) :
    Calls Try.prog 76 #[.slice A n c, .int .i64 k0] w fun e w' => e = .returned (.int .i64 (k0 + n)) ∧ Below w.heap.size w w' := by
  have hn := hx.2.1
  have HX := Lib.hid hx
  clear hx
  go_enter Try.func76, Try.ntmps76
  go_wp2_with fail
  go_loop [1, 5] (fun kv i => ∃ k : Nat, k ≤ n ∧ i = .int .i64 k ∧ kv = .int .i64 (k0 + k)) (fun _ i => n - (intOf i).toNat)
  case atStart => exact ⟨0, Nat.zero_le _, rfl, by simp⟩
  case round =>
    obtain ⟨k, hk, rfl, rfl⟩ := hrel
    by_cases hlt : k < n
    · obtain ⟨b, off, y, rfl, hbl, ho, c0⟩ := HX.out.at_ hlt
      rw [mkInts_at k0 n k hlt] at ho
      injection ho with ho
      subst ho
      go_wp2_with fail
      go_round
      case rel => exact ⟨k + 1, by omega, by go_num, by first | (congr 1; omega) | go_num⟩
      case measure => simp [intOf]; omega
    · obtain rfl : k = n := by omega
      go_wp2_with fail
      go_ret
      exact ⟨rfl, Below.refl _ _⟩

end Go.Proofs.Ytkbclcgdkbhgdaa
namespace Go.Proofs.Ytkbclcgdkbhgdaa
open Go.RowKit Go.BigFrame
set_option linter.unusedVariables false

theorem FreshOps.at_ {w0 w : World} {A : Option Addr} {n : Nat} {xs : List OpV} (h : FreshOps w0 w A n xs) : ∀ ad, A = some ad → w0.heap.size ≤ ad.block ∧ ad.block < w.heap.size := by
  intro ad had
  obtain ⟨b, cur, rfl, hge, hh, _⟩ := h.2 ad had
  exact ⟨hge, lt_of_block hh⟩
theorem FreshInts.at_ {w0 w : World} {A : Option Addr} {n : Nat} {xs : List Int} (h : FreshInts w0 w A n xs) : ∀ ad, A = some ad → w0.heap.size ≤ ad.block ∧ ad.block < w.heap.size := by
  intro ad had
  obtain ⟨b, cur, rfl, hge, hh, _⟩ := h.2 ad had
  exact ⟨hge, lt_of_block hh⟩
theorem FreshOps.below {w0 w w' : World} {A : Option Addr} {n : Nat} {xs : List OpV} (h : FreshOps w0 w A n xs) (hb : Below w.heap.size w w') : FreshOps w0 w' A n xs :=
  ⟨h.1.below hb (Nat.le_refl _), fun ad had => by obtain ⟨b, cur, e, hge, hh, hs⟩ := h.2 ad had; exact ⟨b, cur, e, hge, (hb.block b (lt_of_block hh)).trans hh, hs⟩⟩
theorem FreshInts.below {w0 w w' : World} {A : Option Addr} {n : Nat} {xs : List Int} (h : FreshInts w0 w A n xs) (hb : Below w.heap.size w w') : FreshInts w0 w' A n xs :=
  ⟨h.1.below hb (Nat.le_refl _), fun ad had => by obtain ⟨b, cur, e, hge, hh, hs⟩ := h.2 ad had; exact ⟨b, cur, e, hge, (hb.block b (lt_of_block hh)).trans hh, hs⟩⟩
/-- The block of one address is not that of the other. -/
def Apart (A B : Option Addr) : Prop := ∀ a b, A = some a → B = some b → a.block ≠ b.block
theorem Apart.row {A B : Option Addr} (h : Apart A B) : ∀ b, B = some b → A.map Addr.block ≠ some b.block := by
  intro b hb e
  cases A with
  | none => cases e
  | some a => injection e with e; exact h a b rfl hb e
theorem Apart.of_lt {A B : Option Addr} {k : Nat} (h1 : ∀ a, A = some a → k ≤ a.block) (h2 : ∀ b, B = some b → b.block < k) : Apart A B := fun a b ha hb e => by have := h1 a ha; have := h2 b hb; omega
theorem Apart.symm {A B : Option Addr} (h : Apart A B) : Apart B A := fun a b ha hb e => h b a hb ha e.symm
theorem FreshInts.grown {w0 w w' : World} {A : Option Addr} {n : Nat} {xs : List Int} {row : Option Nat} (h : FreshInts w0 w A n xs) (hg : w.grownBy w' row) (hne : ∀ b, A = some b → row ≠ some b.block) : FreshInts w0 w' A n xs :=
  ⟨h.1.grown hg hne, fun ad had => by obtain ⟨b, cur, e, hge, hh, hs⟩ := h.2 ad had; exact ⟨b, cur, e, hge, (hg.block b (lt_of_block hh) (fun e2 => hne _ had (by rw [← e2, e]))).trans hh, hs⟩⟩
theorem FreshOps.grown {w0 w w' : World} {A : Option Addr} {n : Nat} {xs : List OpV} {row : Option Nat} (h : FreshOps w0 w A n xs) (hg : w.grownBy w' row) (hne : ∀ b, A = some b → row ≠ some b.block) : FreshOps w0 w' A n xs :=
  ⟨h.1.grown hg hne, fun ad had => by obtain ⟨b, cur, e, hge, hh, hs⟩ := h.2 ad had; exact ⟨b, cur, e, hge, (hg.block b (lt_of_block hh) (fun e2 => hne _ had (by rw [← e2, e]))).trans hh, hs⟩⟩
theorem below_marked {w w1 w2 : World} {A : Option Addr} (h : Below w.heap.size w w1) (hg : w1.grownBy w2 (A.map Addr.block)) (hA : ∀ a, A = some a → w.heap.size ≤ a.block) : Below w.heap.size w w2 :=
  h.grown hg h.size fun k hk => by
    cases A with
    | none => cases hk
    | some a => injection hk with hk; rw [← hk]; exact hA a rfl
end Go.Proofs.Ytkbclcgdkbhgdaa
namespace Go.Proofs.Ytkbclcgdkbhgdaa
open Go.RowKit Go.BigFrame
set_option linter.unusedVariables false

/-- The slice value reads as these lists. -/
structure LstsAt (w : World) (A : Option Addr) (n : Nat) (xss : List (List Int)) : Prop where
  len : xss.length = n
  small : n ≤ 1099511627776
  row : 0 < n → ∃ b off, A = some ⟨b, off, none⟩ ∧ b < w.heap.size ∧ ∀ i xs, xss[i]? = some xs → ∃ B c, w.cell? ⟨b, off + i, none⟩ = some (.slice B xs.length c) ∧ RInts w B xs.length xs
theorem LstsAt.nil {w : World} {A : Option Addr} : LstsAt w A 0 [] := ⟨rfl, by omega, fun h => absurd h (by omega)⟩
theorem LstsAt.below {w w' : World} {A : Option Addr} {n : Nat} {xss : List (List Int)} (h : LstsAt w A n xss) (hb : Below w.heap.size w w') : LstsAt w' A n xss :=
  ⟨h.len, h.small, fun hn => by
    obtain ⟨b, off, e, hlt, hc⟩ := h.row hn
    have hs := hb.size
    refine ⟨b, off, e, by omega, fun i xs hi => ?_⟩
    obtain ⟨B, c, h1, h2⟩ := hc i xs hi
    exact ⟨B, c, (hb.cell (p := ⟨b, off + i, none⟩) hlt).trans h1, h2.below hb (Nat.le_refl _)⟩⟩
theorem LstsAt.get {w : World} {A : Option Addr} {n : Nat} {xss : List (List Int)} (h : LstsAt w A n xss) {k : Nat} (hk : k < n) :
    ∃ b off xs B c, A = some ⟨b, off, none⟩ ∧ b < w.heap.size ∧ xss[k]? = some xs ∧ w.cell? ⟨b, off + k, none⟩ = some (.slice B xs.length c) ∧ RInts w B xs.length xs := by
  obtain ⟨b, off, e, hlt, hc⟩ := h.row (by omega)
  have hx : xss[k]? = some (xss[k]'(by rw [h.len]; exact hk)) := List.getElem?_eq_getElem _
  obtain ⟨B, c, h1, h2⟩ := hc k _ hx
  exact ⟨b, off, _, B, c, e, hlt, hx, h1, h2⟩
theorem OuterR.cells {w0 w : World} {A : Option Addr} {n : Nat} {rv : List Value} (h : OuterR w0 w A n rv) (hn : 0 < n) : ∃ b, A = some ⟨b, 0, none⟩ ∧ w0.heap.size ≤ b ∧ b < w.heap.size ∧ ∀ (i : Nat) (u : Value), rv[i]? = some u → w.cell? ⟨b, 0 + i, none⟩ = some u := by
  obtain ⟨ad, e, hc⟩ := h.1.2.2 hn
  obtain ⟨b, cur, e2, h1, h2⟩ := h.2 ad e
  subst e2
  refine ⟨b, e, h1, lt_of_block h2, fun i u hu => ?_⟩
  have := hc i u hu
  rwa [addr_add] at this
theorem LstsAt.of {w0 w : World} {A : Option Addr} {n : Nat} {rv : List Value} {xss : List (List Int)} (ho : OuterR w0 w A n rv) (hr : RowsR w0 w rv xss) (hl : xss.length = n) (hs : n ≤ 1099511627776) : LstsAt w A n xss :=
  ⟨hl, hs, fun hn => by
    obtain ⟨b, e, _, hlt, hc⟩ := ho.cells hn
    refine ⟨b, 0, e, hlt, fun i xs hi => ?_⟩
    obtain ⟨B, c, h1, _, h2⟩ := hr.2 i xs hi
    exact ⟨B, c, hc i _ h1, h2.1⟩⟩


set_option maxRecDepth 100000 in
set_option maxHeartbeats 1000000 in
theorem eqIntSS_any (A B : Option Addr) (n c d : Nat) (xss : List (List Int)) (w : World) (hx : LstsAt w A n xss) (hy : LstsAt w B n xss) :
    Calls Try.prog 26 #[.slice A n c, .slice B n d] w fun e w' => e = .returned (.bool true) ∧ Below w.heap.size w w' := by
  have hn := hx.small
  have HX := Lib.hid hx
  have HY := Lib.hid hy
  clear hx hy
  go_enter Try.func26, Try.ntmps26
  go_wp2_with fail
  go_loopw [5] (fun i wr => ∃ k : Nat, k ≤ n ∧ i = .int .i64 k ∧ Below w.heap.size w wr) (fun i _ => n - (intOf i).toNat)
  case atStart => exact ⟨0, Nat.zero_le _, rfl, Below.refl _ _⟩
  case round =>
    obtain ⟨k, hk, rfl, hb⟩ := hrel
    by_cases hlt : k < n
    · obtain ⟨b, off, xs, C, e, rfl, hbl, ho, c0, hr0⟩ := (HX.out.below hb).get hlt
      obtain ⟨b', off', ys, C', e', rfl, hbl', ho', d0, hr1⟩ := (HY.out.below hb).get hlt
      rw [ho] at ho'
      injection ho' with ho'
      subst ho'
      have L0 := Later.cell c0
      have M0 := Later.cell d0
      have hc : ∀ u : Later wr, Calls Try.prog 74 #[.slice C xs.length e, .slice C' xs.length e'] u.1 fun e w' => e = .returned (.bool true) ∧ Below u.1.heap.size u.1 w' := fun u => by
        have := eqIntS_any C C' xs.length xs.length e e' xs xs u.1 (hr0.below u.2 (Nat.le_refl _)) (hr1.below u.2 (Nat.le_refl _)); rw [beq_self_eq_true] at this; exact this
      have HC := Lib.hid hc
      have hki : (k : Int) < (n : Int) := by omega
      clear ho c0 d0 hr0 hr1 hc
      generalize xs.length = xl at *
      go_wp2_with fail
      refine region_later (by kernel_rfl) (by kernel_rfl) ?_
      repeat (go_big_quiet_step ((go_at_call 74; exact later_call _ (HC.out _))))
      refine wpQuiet_nil ?_
      rintro _ ⟨u, rfl⟩
      have hbu := hb.trans (u.2.mono hb.size)
      go_wp2_with fail
      go_roundw
      case rel => exact ⟨k + 1, by omega, by go_num, hbu⟩
      case measure => simp [intOf]; omega
    · go_wp2_with fail
      go_ret
      exact ⟨rfl, hb⟩


/-- The lengths of the first i lists. -/
def totL (xss : List (List Int)) (i : Nat) : Nat := ((xss.take i).map List.length).sum
theorem totL_succ {xss : List (List Int)} {i : Nat} {xs : List Int} (h : xss[i]? = some xs) : totL xss (i + 1) = totL xss i + xs.length := by
  unfold totL; rw [take_snoc h]; simp
theorem totL_le {xss : List (List Int)} (h4 : ∀ xs ∈ xss, xs.length ≤ 4) (i : Nat) : totL xss i ≤ 4 * i := by
  induction i with
  | zero => simp [totL]
  | succ i ih =>
    cases hx : xss[i]? with
    | none =>
      have hl : xss.length ≤ i := by rw [List.getElem?_eq_none_iff] at hx; exact hx
      have : totL xss (i + 1) = totL xss i := by unfold totL; rw [List.take_of_length_le (by omega), List.take_of_length_le hl]
      omega
    | some xs =>
      have := h4 xs (List.mem_of_getElem? hx)
      rw [totL_succ hx]; omega

/-- Rows that have been marked up to k. -/
structure MkInv (w0 w : World) (b n : Nat) (rv : List Value) (xss : List (List Int)) (k0 : Int) (k : Nat) (wr : World) : Prop where
  below : Below w0.heap.size w wr
  outer : wr.heap[b]? = w.heap[b]?
  marked : ∀ i xs, i < k → xss[i]? = some xs → ∃ B c, rv[i]? = some (.slice B xs.length c) ∧ RInts wr B xs.length (mkInts (k0 + totL xss i) xs.length)
  rest : ∀ i xs, k ≤ i → xss[i]? = some xs → ∃ B c, rv[i]? = some (.slice B xs.length c) ∧ FreshInts w0 wr B xs.length xs
/-- What the marks leave: the rows hold them. -/
def MarkedLists (w0 w : World) (A : Option Addr) (n : Nat) (xss : List (List Int)) (k0 : Int) (e : Ending) (w' : World) : Prop :=
  e = .returned (.int .i64 (k0 + totL xss n)) ∧ Below w0.heap.size w w' ∧ (0 < n → ∃ b, A = some ⟨b, 0, none⟩ ∧ b < w'.heap.size ∧ ∀ i xs, xss[i]? = some xs → ∃ B c, w'.cell? ⟨b, 0 + i, none⟩ = some (.slice B xs.length c) ∧ RInts w' B xs.length (mkInts (k0 + totL xss i) xs.length))

theorem RInts.kept2 {V W : World} {A : Option Addr} {n : Nat} {xs : List Int} (h : RInts V A n xs) (hs : V.heap.size ≤ W.heap.size) (hA : ∀ ad, A = some ad → ad.block < V.heap.size → W.heap[ad.block]? = V.heap[ad.block]?) : RInts W A n xs := by
  refine ⟨h.1, h.2.1, fun hn => ?_⟩
  obtain ⟨b, off, hA', hl, hc⟩ := h.2.2 hn
  have hk := hA _ hA' hl
  exact ⟨b, off, hA', by omega, fun i x hx => (World.cell?_of_block (w := V) (a := ⟨b, off + i, none⟩) hk).trans (hc i x hx)⟩
theorem MkInv.step {w0 w : World} (h00 : w0.heap.size ≤ w.heap.size) {b n : Nat} {rv : List Value} {xss : List (List Int)} {k0 : Int} {k : Nat} {wr w2 : World} {B : Option Addr} {c : Nat} {xs : List Int} (hap : ApartR rv) (h : MkInv w0 w b n rv xss k0 k wr) (hx : xss[k]? = some xs) (hrv : rv[k]? = some (.slice B xs.length c))
    (hf : FreshInts w0 wr B xs.length xs) (hbt : ∃ cur, wr.heap[b]? = some (.cells cur 40 (0, 0))) (hm : RInts w2 B xs.length (mkInts (k0 + totL xss k) xs.length)) (hg : wr.grownBy w2 (B.map Addr.block)) : MkInv w0 w b n rv xss k0 (k + 1) w2 := by
  obtain ⟨h1, h2, h3, h4⟩ := h
  have hs := World.grownBy.size hg
  have hBb : ∀ ad, B = some ad → w0.heap.size ≤ ad.block ∧ ∃ cur, wr.heap[ad.block]? = some (.cells cur 3 (0, 0)) := fun ad had => by
    obtain ⟨g, cur, e, e1, e2, _⟩ := hf.2 ad had
    rw [e]; exact ⟨e1, cur, e2⟩
  have hgrow : ∀ j, (B.map Addr.block) = some j → w0.heap.size ≤ j := fun j hj => by
    cases hB : B with
    | none => rw [hB] at hj; cases hj
    | some ad => rw [hB] at hj; injection hj with hj; have := (hBb ad hB).1; rw [← hj]; exact this
  have other : ∀ i D m d, i ≠ k → rv[i]? = some (.slice D m d) → ∀ ad, D = some ad → some ad.block ≠ B.map Addr.block := by
    intro i D m d hik hi ad had e
    subst had
    cases hB : B with
    | none => rw [hB] at e; cases e
    | some bd =>
      rw [hB] at e
      injection e with e
      rw [hB] at hrv
      exact hap i k ad bd _ _ _ _ hik hi hrv e
  refine ⟨h1.trans ?_, ?_, fun i ys hi hy => ?_, fun i ys hi hy => ?_⟩
  · exact (Below.refl _ wr).grown hg (by have := h1.size; omega) (fun j hj => hgrow j hj)
  · obtain ⟨cur, hcur⟩ := hbt
    refine (hg.block b (lt_of_block hcur) fun e => ?_).trans h2
    cases hB : B with
    | none => rw [hB] at e; cases e
    | some ad =>
      rw [hB] at e
      injection e with e
      obtain ⟨_, cur2, hc2⟩ := hBb ad hB
      rw [← e, hcur] at hc2
      injection hc2 with hc2
      injection hc2 with _ ht _
      exact absurd ht (by decide)
  · rcases Nat.lt_or_ge i k with hik | hik
    · obtain ⟨D, d, e1, e2⟩ := h3 i ys hik hy
      refine ⟨D, d, e1, e2.kept2 hs fun ad had hb => ?_⟩
      exact hg.block _ hb (other i D _ d (by omega) e1 ad had)
    · obtain rfl : i = k := by omega
      rw [hx] at hy
      injection hy with hy
      subst hy
      exact ⟨B, c, hrv, hm⟩
  · obtain ⟨D, d, e1, e2⟩ := h4 i ys (by omega) hy
    refine ⟨D, d, e1, ⟨e2.1.kept2 hs fun ad had hb => ?_, fun ad had => ?_⟩⟩
    · exact hg.block _ hb (other i D _ d (by omega) e1 ad had)
    · obtain ⟨g, cur, e, q1, q2, q3⟩ := e2.2 ad had
      refine ⟨g, cur, e, q1, ?_, q3⟩
      have := other i D _ d (by omega) e1 ad had
      rw [e] at this
      exact (hg.block g (lt_of_block q2) this).trans q2

set_option maxRecDepth 100000 in
set_option maxHeartbeats 2000000 in
theorem markIntSS_any (A : Option Addr) (n c : Nat) (rv : List Value) (xss : List (List Int)) (k0 : Int) (w0 w : World) (ho : OuterR w0 w A n rv) (hr : RowsR w0 w rv xss) (hap : ApartR rv) (hl : xss.length = n) (h4 : ∀ xs ∈ xss, xs.length ≤ 4) (hn : n ≤ 1024) (h0 : 0 ≤ k0) (h1 : k0 ≤ 1048576) (h00 : w0.heap.size ≤ w.heap.size) :
    Calls Try.prog 28 #[.slice A n c, .int .i64 k0] w (MarkedLists w0 w A n xss k0) := by
  rcases Nat.eq_zero_or_pos n with hz | hz
  · subst hz
    clear ho hr hap
    have ht : Hid (totL xss 0 = 0) := by show _ = _; simp [totL]
    go_enter Try.func28, Try.ntmps28
    go_wp2_with fail
    go_loopw [1, 5] (fun kv i wr => i = .int .i64 0 ∧ kv = .int .i64 k0 ∧ wr = w) (fun _ _ _ => 0)
    case atStart => exact ⟨rfl, rfl, rfl⟩
    case round =>
      obtain ⟨rfl, rfl, rfl⟩ := hrel
      go_wp2_with fail
      go_ret
      exact ⟨ret_int (by rw [ht.out]; simp), Below.refl _ _, fun h => absurd h (by omega)⟩
  · obtain ⟨b, hA, hb0, hbl, hc⟩ := ho.cells hz
    obtain ⟨cur, hcur⟩ : ∃ cur, w.heap[b]? = some (.cells cur 40 (0, 0)) := by
      obtain ⟨b', cur, e, _, h⟩ := ho.2 _ hA
      injection e with e1 _ _
      subst e1
      exact ⟨cur, h⟩
    subst hA
    have HT := fun i => totL_le h4 i
    have HTT := Lib.hid HT
    have HST : Hid (MkInv w0 w b n rv xss k0 0 w) := ⟨Below.refl _ _, rfl, fun i xs h => absurd h (by omega), fun i xs _ hi => by obtain ⟨B, c, e, _, hf⟩ := hr.2 i xs hi; exact ⟨B, c, e, hf⟩⟩
    have HC := Lib.hid hc
    have HCUR := Lib.hid hcur
    have HAP := Lib.hid hap
    have HL := Lib.hid hl
    have H4 := Lib.hid h4
    clear hc hcur hap ho hr HT hl h4
    go_enter Try.func28, Try.ntmps28
    go_wp2_with fail
    go_loopw [1, 5] (fun kv i wr => ∃ k : Nat, k ≤ n ∧ i = .int .i64 k ∧ kv = .int .i64 (k0 + totL xss k) ∧ MkInv w0 w b n rv xss k0 k wr) (fun _ i _ => n - (intOf i).toNat)
    case atStart => exact ⟨0, Nat.zero_le _, rfl, by simp [totL], HST.out⟩
    case round =>
      clear HST
      obtain ⟨k, hk, rfl, rfl, hinv⟩ := hrel
      have HINV := Lib.hid hinv
      have htk := HTT.out k
      clear hinv
      by_cases hlt : k < n
      · have hx : xss[k]? = some (xss[k]'(by rw [HL.out]; exact hlt)) := List.getElem?_eq_getElem _
        obtain ⟨xs, hxs⟩ : ∃ xs, xss[k]'(by rw [HL.out]; exact hlt) = xs := ⟨_, rfl⟩
        rw [hxs] at hx
        obtain ⟨B, cB, hrv, hf⟩ := HINV.out.rest k xs (Nat.le_refl _) hx
        have c0 : wr.cell? ⟨b, 0 + k, none⟩ = some (.slice B xs.length cB) := (World.cell?_of_block (w := w) (a := ⟨b, 0 + k, none⟩) HINV.out.outer).trans (HC.out k _ hrv)
        rw [Nat.zero_add] at c0
        have hx4 : xs.length ≤ 4 := H4.out xs (List.mem_of_getElem? hx)
        have hM := markIntS_any B xs.length cB xs (k0 + totL xss k) w0 wr hf (by omega) (by omega)
        have HM := Lib.hid hM
        have HST : Hid (∀ w2, RInts w2 B xs.length (mkInts (k0 + totL xss k) xs.length) → wr.grownBy w2 (B.map Addr.block) → MkInv w0 w b n rv xss k0 (k + 1) w2) := fun w2 hm hg =>
          HINV.out.step h00 HAP.out hx hrv hf ⟨cur, HINV.out.outer.trans HCUR.out⟩ hm hg
        have HTS := Lib.hid (totL_succ hx)
        clear hM hf hrv hx hxs
        generalize xs.length = xl at *
        generalize totL xss k = tk at *
        have l1 : (k : Int) < n := by omega
        have l2 : (0 : Int) ≤ (k : Int) := by omega
        go_wp2_with fail
        refine HM.out.mono ?_
        rintro e w2 ⟨rfl, hm, hg⟩
        have HN := Lib.hid (HST.out w2 hm hg)
        clear hm hg HST
        go_wp2_with fail
        go_roundw
        case rel => exact ⟨k + 1, by omega, by go_num, by rw [HTS.out]; first | go_num | (congr 1; omega), HN.out⟩
        case measure => simp [intOf]; omega
      · obtain rfl : k = n := by omega
        have HF : Hid (MarkedLists w0 w (some ⟨b, 0, none⟩) k xss k0 (.returned (.int .i64 (k0 + totL xss k))) wr) := by
          refine ⟨rfl, HINV.out.below, fun _ => ⟨b, rfl, by have := HINV.out.below.size; omega, fun i xs hi => ?_⟩⟩
          have hik : i < k := by rw [← HL.out]; exact (List.getElem?_eq_some_iff.1 hi).1
          obtain ⟨B, c', e1, e2⟩ := HINV.out.marked i xs hik hi
          exact ⟨B, c', (World.cell?_of_block (w := w) (a := ⟨b, 0 + i, none⟩) HINV.out.outer).trans (HC.out i _ e1), e2⟩
        go_wp2_with fail
        go_ret
        exact HF.out

/-- The rows that hold the marks. -/
def HeldAt_ (w : World) (A : Option Addr) (n : Nat) (xss : List (List Int)) (k0 : Int) : Prop :=
  0 < n → ∃ b, A = some ⟨b, 0, none⟩ ∧ b < w.heap.size ∧ ∀ i xs, xss[i]? = some xs → ∃ B c, w.cell? ⟨b, 0 + i, none⟩ = some (.slice B xs.length c) ∧ RInts w B xs.length (mkInts (k0 + totL xss i) xs.length)
theorem HeldAt_.below {w w' : World} {A : Option Addr} {n : Nat} {xss : List (List Int)} {k0 : Int} (h : HeldAt_ w A n xss k0) (hb : Below w.heap.size w w') : HeldAt_ w' A n xss k0 := fun hn => by
  obtain ⟨b, e, hl, hc⟩ := h hn
  have hs := hb.size
  refine ⟨b, e, by omega, fun i xs hi => ?_⟩
  obtain ⟨B, c, h1, h2⟩ := hc i xs hi
  exact ⟨B, c, (hb.cell (p := ⟨b, 0 + i, none⟩) hl).trans h1, h2.below hb (Nat.le_refl _)⟩

set_option maxRecDepth 100000 in
set_option maxHeartbeats 2000000 in
theorem heldIntSS_any (A : Option Addr) (n c : Nat) (xss : List (List Int)) (k0 : Int) (w : World) (hx : HeldAt_ w A n xss k0) (hl : xss.length = n) (h4 : ∀ xs ∈ xss, xs.length ≤ 4) (hn : n ≤ 1024) (h0 : 0 ≤ k0) (h1 : k0 ≤ 1048576) :
    Calls Try.prog 29 #[.slice A n c, .int .i64 k0] w fun e w' => e = .returned (.int .i64 (k0 + totL xss n)) ∧ Below w.heap.size w w' := by
  have HX := Lib.hid hx
  have HTT := Lib.hid (fun i => totL_le h4 i)
  have HL := Lib.hid hl
  have H4 := Lib.hid h4
  clear hx hl h4
  go_enter Try.func29, Try.ntmps29
  go_wp2_with fail
  go_loopw [1, 5] (fun kv i wr => ∃ k : Nat, k ≤ n ∧ i = .int .i64 k ∧ kv = .int .i64 (k0 + totL xss k) ∧ Below w.heap.size w wr) (fun _ i _ => n - (intOf i).toNat)
  case atStart => exact ⟨0, Nat.zero_le _, rfl, by simp [totL], Below.refl _ _⟩
  case round =>
    obtain ⟨k, hk, rfl, rfl, hb⟩ := hrel
    have htk := HTT.out k
    by_cases hlt : k < n
    · have hx : xss[k]? = some (xss[k]'(by rw [HL.out]; exact hlt)) := List.getElem?_eq_getElem _
      obtain ⟨xs, hxs⟩ : ∃ xs, xss[k]'(by rw [HL.out]; exact hlt) = xs := ⟨_, rfl⟩
      rw [hxs] at hx
      obtain ⟨b, rfl, hbl, hc⟩ := (HX.out.below hb) (by omega)
      obtain ⟨B, cB, c0, hm⟩ := hc k xs hx
      rw [Nat.zero_add] at c0
      have hx4 : xs.length ≤ 4 := H4.out xs (List.mem_of_getElem? hx)
      have HH := Lib.hid (heldIntS_any B xs.length cB (k0 + totL xss k) wr hm (by omega) (by omega))
      have HTS := Lib.hid (totL_succ hx)
      clear hm hc hx hxs
      generalize xs.length = xl at *
      generalize totL xss k = tk at *
      have l1 : (k : Int) < n := by omega
      have l2 : (0 : Int) ≤ (k : Int) := by omega
      have l3 : ¬ (k0 + (tk : Int) + (xl : Int) < 0) := by omega
      go_wp2_with fail
      refine HH.out.mono ?_
      rintro e w2 ⟨rfl, hb2⟩
      go_wp2_with fail
      go_roundw
      case rel => exact ⟨k + 1, by omega, by go_num, by rw [HTS.out]; first | go_num | (congr 1; omega), hb.trans (hb2.mono hb.size)⟩
      case measure => simp [intOf]; omega
    · obtain rfl : k = n := by omega
      go_wp2_with fail
      go_ret
      exact ⟨rfl, hb⟩

/-- The lists that the call has handed back, made since w0. -/
structure GLists (w0 w : World) (A : Option Addr) (n : Nat) (rv : List Value) (xss : List (List Int)) : Prop where
  outer : OuterR w0 w A n rv
  rows : RowsR w0 w rv xss
theorem GLists.turned {w0 V W : World} {A : Option Addr} {n : Nat} {rv : List Value} {xss : List (List Int)} (h : GLists w0 V A n rv xss) (hs : V.heap.size ≤ W.heap.size) (hk : ∀ g, w0.heap.size ≤ g → g < V.heap.size → W.heap[g]? = V.heap[g]?) : GLists w0 W A n rv xss := by
  have hblk : ∀ ad, A = some ad → ∃ b cur, ad = ⟨b, 0, none⟩ ∧ w0.heap.size ≤ b ∧ V.heap[b]? = some (.cells cur 40 (0, 0)) ∧ W.heap[b]? = V.heap[b]? := fun ad had => by
    obtain ⟨b, cur, e, h1, h2⟩ := h.outer.2 ad had
    exact ⟨b, cur, e, h1, h2, hk b h1 (lt_of_block h2)⟩
  refine ⟨⟨⟨h.outer.1.1, h.outer.1.2.1, fun hn => ?_⟩, fun ad had => ?_⟩, h.rows.turned hs fun g h1 h2 _ => hk g h1 h2⟩
  · obtain ⟨ad, e, hc⟩ := h.outer.1.2.2 hn
    obtain ⟨b, cur, e2, _, _, hkb⟩ := hblk ad e
    subst e2
    refine ⟨_, e, fun j u hu => ?_⟩
    have := hc j u hu
    rw [addr_add] at this ⊢
    exact (World.cell?_of_block (w := V) (a := ⟨b, 0 + j, none⟩) hkb).trans this
  · obtain ⟨b, cur, e, h1, h2, hkb⟩ := hblk ad had
    exact ⟨b, cur, e, h1, hkb.trans h2⟩
theorem GLists.below {w0 w w' : World} {A : Option Addr} {n : Nat} {rv : List Value} {xss : List (List Int)} (h : GLists w0 w A n rv xss) (hb : Below w.heap.size w w') : GLists w0 w' A n rv xss := h.turned hb.size fun g _ hg => hb.block g hg
theorem GLists.marked {w0 w w' : World} {A X : Option Addr} {n : Nat} {rv : List Value} {xss : List (List Int)} (h : GLists w0 w A n rv xss) (hg : w.grownBy w' (X.map Addr.block)) (hX : ∀ a, X = some a → a.block < w0.heap.size) : GLists w0 w' A n rv xss :=
  h.turned (World.grownBy.size hg) fun g h1 h2 => hg.block g h2 fun e => by
    cases hx : X with
    | none => rw [hx] at e; cases e
    | some a => rw [hx] at e; injection e with e; have := hX a hx; omega
theorem GLists.at_ {w0 w : World} {A : Option Addr} {n : Nat} {rv : List Value} {xss : List (List Int)} (h : GLists w0 w A n rv xss) (hl : xss.length = n) (hs : n ≤ 1099511627776) : LstsAt w A n xss := LstsAt.of h.outer h.rows hl hs
end Go.Proofs.Ytkbclcgdkbhgdaa
namespace Go.Proofs.Ytkbclcgdkbhgdaa
open Go.RowKit Go.BigFrame
set_option linter.unusedVariables false

theorem ordI_bd {L : List Int} {R : List Nat} (h : L.length ≤ 4) : (ordI L R).length ≤ 1024 ∧ ∀ xs ∈ ordI L R, xs.length ≤ 4 := by
  unfold ordI
  refine ⟨Nat.le_trans (List.length_filter_le _ _) (Nat.le_trans (permF_len h _ _) ?_), fun xs hx => ?_⟩
  · have : (4:Nat) ^ L.length ≤ 4 ^ 4 := Nat.pow_le_pow_right (by omega) h
    omega
  · have := permF_length _ _ _ (List.mem_filter.1 hx).1
    simp at this
    omega
theorem ordO_bd {s : List OpV} (h : validS s = true) : (orNil true (ordO s)).length ≤ 1024 ∧ ∀ xs ∈ orNil true (ordO s), xs.length ≤ 4 := ordI_bd (txsOf_len _)
set_option maxRecDepth 100000 in
set_option maxHeartbeats 4000000 in
theorem exact_ordersOf (A : Option Addr) (n c : Nat) (w : World) (hin : OpsIn w A n c) :
    Calls Try.prog 5 #[.slice A n c] w fun e w' => e = .returned (.bool true) ∧ Below w.heap.size w w' := by
  obtain ⟨hnc, hcm, hx0⟩ := hin
  unfold maxLen at hcm
  by_cases hbig : 1048576 < n
  · clear hx0
    go_enter Try.func5, Try.ntmps5
    go_wp2_with fail
    refine (szOpS_any A n c 1048576 w (by omega) (by omega) (by omega)).mono ?_
    rw [if_pos (by omega)]
    rintro e w1 ⟨rfl, rfl⟩
    go_wp2_with fail
    go_ret
    exact ⟨rfl, Below.refl _ _⟩
  · obtain ⟨s, hx⟩ := hx0 (by omega)
    have HX := Lib.hid hx
    obtain rfl : n = s.length := hx.1.symm
    clear hx0 hx
    obtain ⟨ys, hys⟩ : ∃ ys, orNil (validS s) (ordOS s) = ys := ⟨_, rfl⟩
    have hys1 : orNil (validS s) (ordO s) = ys := by
      rw [← hys]
      cases hv : validS s
      · rfl
      · rw [ordO_eq hv]
    have HBD : Hid (ys.length ≤ 1024 ∧ ∀ xs ∈ ys, xs.length ≤ 4) := by
      show _ ∧ _
      rw [← hys1]
      cases hv : validS s
      · exact ⟨by simp [orNil], fun xs h => by simp [orNil] at h⟩
      · exact ordO_bd hv
    have c1 : ∀ (W : World) (B : Option Addr) (d : Nat), ROps W B s.length s → s.length ≤ d → Calls Try.prog 23 #[.slice B s.length d] W (RetListsA W ys) := fun W B d h hd => by
      have := OrdersOf_any B _ d s W h hd; rw [hys1] at this; exact this
    have c2 : ∀ (W : World) (B : Option Addr) (d : Nat), ROps W B s.length s → s.length ≤ d → Calls Try.prog 25 #[.slice B s.length d] W (RetLists W ys) := fun W B d h hd => by
      have := sOrdersOf_any B _ d s W h hd; rw [hys] at this; exact this
    have c3 : ∀ (W : World), Below w.heap.size w W → Calls Try.prog 16 #[.slice A s.length c] W (RetOps W s) := fun W h => toOpS_any A s.length c s W (HX.out.below h (Nat.le_refl _)) (by omega)
    have C1 := Lib.hid c1
    have C2 := Lib.hid c2
    have C3 := Lib.hid c3
    clear c1 c2 c3 hys hys1
    obtain ⟨N, hN⟩ : ∃ N, ys.length = N := ⟨_, rfl⟩
    have HN := Lib.hid hN
    have hN1 : N ≤ 1024 := by have := HBD.out.1; omega
    have htt := totL_le HBD.out.2 N
    clear hN
    go_enter Try.func5, Try.ntmps5
    go_wp2_with fail
    refine (szOpS_any A s.length c 1048576 w (by omega) (by omega) (by omega)).mono ?_
    rw [if_neg (by omega)]
    rintro e w1 ⟨rfl, rfl⟩
    have hsz0 : ¬ ((1048576 : Int) - (s.length : Int) < 0) := by omega
    go_wp2_with fail
    refine (C3.out w (Below.refl _ _)).mono ?_
    rintro e w1 ⟨B1, d1, rfl, hd1, ⟨hr1, _⟩, hb1⟩
    go_wp2_with fail
    refine (C2.out w1 B1 d1 hr1 hd1).mono ?_
    rintro e w2 ⟨Y, dy, rvy, rfl, hdy, hoy, hry, hb2⟩
    rw [HN.out] at hdy hoy ⊢
    have HY : Hid (LstsAt w2 Y N ys) := LstsAt.of hoy hry HN.out (by omega)
    have hbw2 := hb1.trans (hb2.mono hb1.size)
    clear hr1 hb1 hb2 hoy hry
    go_wp2_with fail
    refine (C3.out w2 hbw2).mono ?_
    rintro e w3 ⟨X, dx, rfl, hdx, hfx, hb3⟩
    have hbw3 := hbw2.trans (hb3.mono hbw2.size)
    have hXge : ∀ a, X = some a → w2.heap.size ≤ a.block := fun a ha => (hfx.at_ a ha).1
    have hXlt : ∀ a, X = some a → a.block < w3.heap.size := fun a ha => (hfx.at_ a ha).2
    have hsz23 := hb3.size
    have hwz := hbw2.size
    have HY3 := Lib.hid hb3
    have rx3 := Lib.hid hfx
    have hX1 := Lib.hid hfx.1
    clear hfx hb3 hbw2
    go_wp2_with fail
    refine (C1.out w3 X dx hX1.out hdx).mono ?_
    rintro e w4 ⟨G, dg, rv, rfl, hdg, hog, hrg, hapg, hb4⟩
    rw [HN.out] at hdg hog ⊢
    have hbw4 := hbw3.trans (hb4.mono hbw3.size)
    have HAP := Lib.hid hapg
    have HY4 : Hid (Below w2.heap.size w2 w4) := HY3.out.trans (hb4.mono hsz23)
    have rx4 := Lib.hid (rx3.out.below hb4)
    have rg4 : Hid (GLists w3 w4 G N rv ys) := ⟨hog, hrg⟩
    have HXw : Hid (∀ a, X = some a → w.heap.size ≤ a.block) := fun a ha => Nat.le_trans hwz (hXge a ha)
    have HX2 := Lib.hid hXge
    have HX3 := Lib.hid hXlt
    have hw03 := hbw3.size
    have h34 := hb4.size
    clear hog hrg hapg hb4 rx3 hX1 hXge hXlt hbw3 HY3
    go_wp2_with fail
    refine (eqIntSS_any G Y N dg dy ys w4 (rg4.out.at_ HN.out (by omega)) (HY.out.below HY4.out)).mono ?_
    rintro e w5 ⟨rfl, hb5⟩
    have hbw5 := hbw4.trans (hb5.mono hbw4.size)
    have HY5 : Hid (Below w2.heap.size w2 w5) := HY4.out.trans (hb5.mono HY4.out.size)
    have rx5 := Lib.hid (rx4.out.below hb5)
    have rg5 := Lib.hid (rg4.out.below hb5)
    have h45 := hb5.size
    clear HY4 rx4 rg4 hb5 hbw4
    go_wp2_with fail
    refine (C3.out w5 hbw5).mono ?_
    rintro e w6 ⟨Z, dz, rfl, hdz, ⟨hrz, _⟩, hb6⟩
    have hbw6 := hbw5.trans (hb6.mono hbw5.size)
    have HY6 : Hid (Below w2.heap.size w2 w6) := HY5.out.trans (hb6.mono HY5.out.size)
    have rx6 := Lib.hid (rx5.out.below hb6)
    have rg6 := Lib.hid (rg5.out.below hb6)
    have h56 := hb6.size
    have hrz := Lib.hid hrz
    clear HY5 rx5 rg5 hb6 hbw5
    go_wp2_with fail
    refine (eqOpS_any X Z _ _ dx dz s s w6 rx6.out.1 hrz.out).mono ?_
    rw [beq_self_eq_true]
    rintro e w7 ⟨rfl, hb7⟩
    have hbw7 := hbw6.trans (hb7.mono hbw6.size)
    have HY7 : Hid (Below w2.heap.size w2 w7) := HY6.out.trans (hb7.mono HY6.out.size)
    have rx7 := Lib.hid (rx6.out.below hb7)
    have rg7 := Lib.hid (rg6.out.below hb7)
    have h67 := hb7.size
    clear HY6 rx6 rg6 hrz hb7 hbw6
    go_wp2_with fail
    refine (markOpS_any X s.length dx s 1 w2 w7 rx7.out (by omega) (by omega)).mono ?_
    rintro e w8 ⟨rfl, _, hg8⟩
    have hbw8 := below_marked hbw7 hg8 HXw.out
    have HY8 : Hid (Below w2.heap.size w2 w8) := below_marked HY7.out hg8 HX2.out
    have rg8 := Lib.hid (rg7.out.marked hg8 HX3.out)
    have h78 := World.grownBy.size hg8
    clear HY7 rx7 rg7 hg8 hbw7
    have hk0 : ¬ ((1 : Int) + 3 * (s.length : Int) < 0) := by omega
    go_wp2_with fail
    refine (eqIntSS_any G Y N dg dy ys w8 (rg8.out.at_ HN.out (by omega)) (HY.out.below HY8.out)).mono ?_
    rintro e w9 ⟨rfl, hb9⟩
    have hbw9 := hbw8.trans (hb9.mono hbw8.size)
    have HY9 : Hid (Below w2.heap.size w2 w9) := HY8.out.trans (hb9.mono HY8.out.size)
    have rg9 := Lib.hid (rg8.out.below hb9)
    have h39 : w3.heap.size ≤ w9.heap.size := by have := hb9.size; omega
    clear HY8 rg8 hb9 hbw8
    go_wp2_with fail
    refine (markIntSS_any G N dg rv ys 1 w3 w9 rg9.out.1 rg9.out.2 HAP.out HN.out HBD.out.2 hN1 (by omega) (by omega) h39).mono ?_
    rintro e w10 ⟨rfl, hbm, hm10⟩
    have hbw10 := hbw9.trans (hbm.mono hw03)
    have HY10 : Hid (Below w2.heap.size w2 w10) := HY9.out.trans (hbm.mono hsz23)
    have rm10 : Hid (HeldAt_ w10 G N ys 1) := hm10
    clear HY9 rg9 hbm hbw9 hm10
    go_wp2_with fail
    refine (heldIntSS_any G N dg ys 1 w10 rm10.out HN.out HBD.out.2 hN1 (by omega) (by omega)).mono ?_
    rintro e w11 ⟨rfl, hb11⟩
    have hbw11 := hbw10.trans (hb11.mono hbw10.size)
    have HY11 : Hid (Below w2.heap.size w2 w11) := HY10.out.trans (hb11.mono HY10.out.size)
    have rm11 := Lib.hid (rm10.out.below hb11)
    clear HY10 rm10 hb11 hbw10
    have hq0 : ¬ ((1 : Int) + (totL ys N : Int) < 0) := by omega
    go_wp2_with fail
    refine (C3.out w11 hbw11).mono ?_
    rintro e w12 ⟨V, dv, rfl, hdv, ⟨hrv, _⟩, hb12⟩
    have hbw12 := hbw11.trans (hb12.mono hbw11.size)
    have HY12 : Hid (Below w2.heap.size w2 w12) := HY11.out.trans (hb12.mono HY11.out.size)
    have rm12 := Lib.hid (rm11.out.below hb12)
    have hrv := Lib.hid hrv
    clear HY11 rm11 hb12 hbw11
    go_wp2_with fail
    refine (C1.out w12 V dv hrv.out hdv).mono ?_
    rintro e w13 ⟨U, du, rvu, rfl, hdu, hou, hru, _, hb13⟩
    rw [HN.out] at hdu hou ⊢
    have hbw13 := hbw12.trans (hb13.mono hbw12.size)
    have HY13 : Hid (Below w2.heap.size w2 w13) := HY12.out.trans (hb13.mono HY12.out.size)
    have rm13 := Lib.hid (rm12.out.below hb13)
    have HU : Hid (LstsAt w13 U N ys) := LstsAt.of hou hru HN.out (by omega)
    clear HY12 rm12 hb13 hbw12 hou hru
    go_wp2_with fail
    refine (eqIntSS_any U Y N du dy ys w13 HU.out (HY.out.below HY13.out)).mono ?_
    rintro e w14 ⟨rfl, hb14⟩
    have hbw14 := hbw13.trans (hb14.mono hbw13.size)
    have rm14 := Lib.hid (rm13.out.below hb14)
    clear HY13 rm13 hb14 hbw13
    go_wp2_with fail
    refine (heldIntSS_any G N dg ys 1 w14 rm14.out HN.out HBD.out.2 hN1 (by omega) (by omega)).mono ?_
    rintro e w15 ⟨rfl, hb15⟩
    have hbw15 := hbw14.trans (hb15.mono hbw14.size)
    clear rm14 hb15 hbw14
    go_wp2_with fail
    go_ret
    exact ⟨rfl, hbw15⟩

end Go.Proofs.Ytkbclcgdkbhgdaa
