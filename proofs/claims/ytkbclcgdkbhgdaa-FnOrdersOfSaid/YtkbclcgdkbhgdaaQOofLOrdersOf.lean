/-
  The walk of the law FnOrdersOf: whatever the input, it returns true and changes nothing.
-/
import Derived.Test.YtkbclcgdkbhgdaaQOofView6
import Derived.Test.YtkbclcgdkbhgdaaQOofTimeL0
import Derived.Test.YtkbclcgdkbhgdaaQOofLCycleOf
import Derived.Test.YtkbclcgdkbhgdaaPkOrdX3
import Derived.Test.YtkbclcgdkbhgdaaQOofLawL0
import Derived.Test.YtkbclcgdkbhgdaaQOofLaw1
import Derived.Test.YtkbclcgdkbhgdaaQOofDraws3
import Derived.Test.YtkbclcgdkbhgdaaPkOrdX1
import Derived.Test.YtkbclcgdkbhgdaaQOofViewP0
namespace Go.Proofs.Ytkbclcgdkbhgdaa
open Go.RowKit Go.BigFrame
set_option linter.unusedVariables false

/-- There is an order just where nothing goes round. -/
theorem ord_cyc {s : List OpV} (hv : validS s = true) : ordO s = [] ↔ cycL s ≠ [] := by
  have h4 : Rows4 (grI (committed s)) := grI_ok (comm_tx4 hv)
  have hd := gr_diag' hv
  constructor
  · intro h hc
    exact (ordO_src hv).2 (cyc_none h4 hd hc (txsOf_rng0 _)) h
  · intro h
    have := (cycL_facts hv h).2.2.1
    cases he : ordO s with
    | nil => rfl
    | cons x r => rw [he] at this; simp at this
theorem ord_dist (s : List OpV) : (ordO s).Nodup := (permF_dist (nodup_txsOf _) _ _).filter _
theorem ord_next {s : List OpV} {i q : Nat} {xs ys : List Int} (hi : i = q + 1) (hx : (ordO s)[q]? = some xs) (hy : (ordO s)[i]? = some ys) : (xs == ys) = false := by
  rw [beq_eq_false_iff_ne]
  rintro rfl
  obtain ⟨h1, e1⟩ := List.getElem?_eq_some_iff.1 hx
  obtain ⟨h2, e2⟩ := List.getElem?_eq_some_iff.1 hy
  have hp := ord_dist s
  unfold List.Nodup at hp
  rw [List.pairwise_iff_getElem] at hp
  exact hp q i h1 h2 (by omega) (e1.trans e2.symm)

set_option maxRecDepth 100000 in
set_option maxHeartbeats 2000000 in
theorem law_ordersOf (A : Option Addr) (n c : Nat) (w : World) (hin : BytesIn w A n c) :
    Calls Try.prog 13 #[.slice A n c] w fun e w' => e = .returned (.bool true) ∧ Below w.heap.size w w' := by
  obtain ⟨hx, hnc⟩ := hin
  have hn := hx.1
  by_cases hbig : 1048576 < n
  · clear hx
    go_enter Try.func13, Try.ntmps13
    go_wp2_with fail
    go_ret
    exact ⟨rfl, Below.refl _ _⟩
  have HD := Lib.hid (DrawOrdersOf_any A n c w hx hnc)
  clear hx
  go_enter Try.func13, Try.ntmps13
  go_wp2_with fail
  refine HD.out.mono ?_
  rintro e w1 ⟨S, m, d, s, rfl, hown, hm, hb1⟩
  have hmd : m ≤ d := by obtain ⟨A', c', he, h⟩ := own_form2 hown; injection he with _ _ he; omega
  have hR : ∀ W, Below w1.heap.size w1 W → ROps W S m s := fun W h => (ROps.of_own hown (by omega)).below h (Nat.le_refl _)
  obtain ⟨V, hV⟩ : ∃ V, validS s = V := ⟨_, rfl⟩
  obtain ⟨K, hK⟩ : ∃ K, committed s = K := ⟨_, rfl⟩
  obtain ⟨T, hT⟩ : ∃ T, orNil V (ordO s) = T := ⟨_, rfl⟩
  obtain ⟨cb, hcb⟩ : ∃ cb, (!(cycL s).isEmpty) = cb := ⟨_, rfl⟩
  have hTS : orNil V (ordOS s) = T := by
    rw [← hT, ← hV]
    cases hv : validS s
    · rfl
    · rw [ordO_eq hv]
  have c1 : ∀ W : World, Below w1.heap.size w1 W → Calls Try.prog 23 #[.slice S m d] W (RetListsA W T) := fun W h => by
    have := OrdersOf_any S m d s W (hR W h) hmd; rw [hV, hT] at this; exact this
  have c2 : ∀ W : World, Below w1.heap.size w1 W → Calls Try.prog 25 #[.slice S m d] W (RetLists W T) := fun W h => by
    have := sOrdersOf_any S m d s W (hR W h) hmd; rw [hV, hTS] at this; exact this
  have c3 : ∀ W : World, Below w1.heap.size w1 W → Calls Try.prog 22 #[.slice S m d] W fun e w' => e = .returned (.bool V) ∧ Below W.heap.size W w' := fun W h => by
    have := ValidSchedule_any S m d s W (hR W h) hmd; rw [hV] at this; exact this
  have c4 : V = true → ∀ W : World, Below w1.heap.size w1 W → Calls Try.prog 44 #[.slice S m d] W (RetOps W K) := fun hv W h => by
    have := CommittedOf_any S m d s W (hR W h) hmd; rw [hV, hv, hK] at this; exact this
  have c5 : V = true → ∀ W : World, Below w1.heap.size w1 W → Calls Try.prog 31 #[.slice S m d] W (RetIntsB W (cycL s) cb) := fun hv W h => by
    have := CycleOf_any S m d s W (hR W h) hmd; rw [hV, hv, Bool.true_and, hcb] at this; exact this
  have hpv : V = true → ∀ xs ∈ T, vordI K xs = true ∧ Same K (serialI K xs) := fun hv xs hx => by
    rw [← hT, hv] at hx
    have hx : xs ∈ ordO s := hx
    unfold ordO ordI at hx
    obtain ⟨h1, h2⟩ := List.mem_filter.1 hx
    rw [← hK]
    exact ⟨perm_vord h1, ord_same (validS_committed (hV.trans hv)) (perm_vord h1) h2⟩
  have hvk : V = true → validS K = true := fun hv => by rw [← hK]; exact validS_committed (hV.trans hv)
  have c6 : V = true → ∀ (W : World) (C B : Option Addr) (k cc p q : Nat) (xs : List Int), xs ∈ T → ROps W C k K → k ≤ cc → RInts W B p xs → (∀ ad, B = some ad → ad.block < W.heap.size) → Calls Try.prog 55 #[.slice C k cc, .slice B p q] W (RetOps W (serialI K xs)) := fun hv W C B k cc p q xs hx h1 h2 h3 h4 => by
    have := SerialBy_any C B k cc p q K xs W h1 h2 h3 h4
    rw [hvk hv, (hpv hv xs hx).1] at this
    exact this
  have c7 : V = true → ∀ (W : World) (C X : Option Addr) (k cc l q : Nat) (xs : List Int), xs ∈ T → ROps W C k K → k ≤ cc → ROps W X l (serialI K xs) → l ≤ q → Calls Try.prog 40 #[.slice C k cc, .slice X l q] W fun e w' => e = .returned (.bool true) ∧ Below W.heap.size W w' := fun hv W C X k cc l q xs hx h1 h2 h3 h4 => by
    have := IsSame_any C X k l cc q K (serialI K xs) W h1 h2 h3 h4
    have h5 := (vordI_perm (hpv hv xs hx).1).nodup_iff.2 (nodup_txsOf K)
    rw [hvk hv, validS_serial (hvk hv) h5, sameB_iff.2 (hpv hv xs hx).2] at this
    exact this
  have h8 : V = true → ∀ (i q : Nat) (xs ys : List Int), i = q + 1 → T[q]? = some xs → T[i]? = some ys → (xs == ys) = false := fun hv i q xs ys h1 h2 h3 => by
    rw [← hT, hv] at h2 h3
    exact ord_next h1 h2 h3
  have h9 : V = true → cb = decide (T.length = 0) := fun hv => by
    rw [← hcb, ← hT, hv]
    show (!(cycL s).isEmpty) = decide ((ordO s).length = 0)
    have := ord_cyc (hV.trans hv)
    cases h1 : ordO s with
    | nil =>
      have h2 := this.1 h1
      cases h3 : cycL s with
      | nil => exact absurd h3 h2
      | cons x r => rfl
    | cons x r =>
      cases h3 : cycL s with
      | nil => simp
      | cons y l => exact absurd (this.2 (by rw [h3]; simp)) (by rw [h1]; simp)
  have h10 : T.length ≤ 1024 := by
    rw [← hT]
    cases hv : V
    · simp [orNil]
    · exact (ordO_bd (hV.trans hv)).1
  have C1 := Lib.hid c1
  have C2 := Lib.hid c2
  have C3 := Lib.hid c3
  have C4' := Lib.hid c4
  have C5' := Lib.hid c5
  have C6' := Lib.hid c6
  have C7' := Lib.hid c7
  have H8' := Lib.hid h8
  have H9' := Lib.hid h9
  clear hown HD hR c1 c2 c3 c4 c5 c6 c7 hV hK hT hTS hcb hpv hvk h8 h9
  generalize cycL s = cy at *
  obtain ⟨N, hN⟩ : ∃ N, T.length = N := ⟨_, rfl⟩
  have HN := Lib.hid hN
  have hN1 : N ≤ 1024 := by omega
  clear hN h10
  go_wp2_with fail
  refine (C1.out w1 (Below.refl _ _)).mono ?_
  rintro e w2 ⟨P, pc, rv, rfl, hpc, hou, hro, _, hb2⟩
  rw [HN.out] at hpc hou ⊢
  have HG : Hid (GLists w1 w2 P N rv T) := ⟨hou, hro⟩
  have HP : Hid (LstsAt w2 P N T) := LstsAt.of hou hro HN.out (by omega)
  clear hou hro
  go_wp2_with fail
  refine (C2.out w2 hb2).mono ?_
  rintro e w3 ⟨Y, yc, ry, rfl, hyc, houy, hroy, hb3⟩
  rw [HN.out] at hyc houy ⊢
  have hb13 := hb2.trans (hb3.mono hb2.size)
  have HEQ := Lib.hid (equalLists_any P Y N pc yc T w3 (HP.out.below hb3) (LstsAt.of houy hroy HN.out (by omega)))
  clear houy hroy
  go_wp2_with fail
  refine HEQ.out.mono ?_
  rintro e w4 ⟨rfl, hb4⟩
  have hb24 := hb3.trans (hb4.mono hb3.size)
  have hb14 := hb2.trans (hb24.mono hb2.size)
  have HCV := Lib.hid (C3.out w4 hb14)
  clear HEQ hb3 hb4 hb13
  cases V
  · go_wp2_with fail
    refine HCV.out.mono ?_
    rintro e w5 ⟨rfl, hb5⟩
    have hb25 := hb24.trans (hb5.mono hb24.size)
    have hb15 := hb2.trans (hb25.mono hb2.size)
    go_wp2_with fail
    refine (C2.out w5 hb15).mono ?_
    rintro e w6 ⟨Z, zc, rz, rfl, hzc, houz, hroz, hb6⟩
    rw [HN.out] at hzc houz ⊢
    have hb26 := hb25.trans (hb6.mono hb25.size)
    have HEQ := Lib.hid (equalLists_any P Z N pc zc T w6 (HP.out.below hb26) (LstsAt.of houz hroz HN.out (by omega)))
    clear houz hroz hb6
    go_wp2_with fail
    refine HEQ.out.mono ?_
    rintro e w7 ⟨rfl, hb7⟩
    have hb27 := hb26.trans (hb7.mono hb26.size)
    go_wp2_with fail
    go_ret
    exact ⟨rfl, hb1.trans ((hb2.trans (hb27.mono hb2.size)).mono hb1.size)⟩
  have C4 := Lib.hid (C4'.out (by trivial))
  have C5 := Lib.hid (C5'.out (by trivial))
  have C6 := Lib.hid (C6'.out (by trivial))
  have C7 := Lib.hid (C7'.out (by trivial))
  have H8 := Lib.hid (H8'.out (by trivial))
  have H9 := Lib.hid (H9'.out (by trivial))
  clear C4' C5' C6' C7' H8' H9'
  go_wp2_with fail
  refine HCV.out.mono ?_
  rintro e w5 ⟨rfl, hb5⟩
  have hb25 := hb24.trans (hb5.mono hb24.size)
  have hb15 := hb2.trans (hb25.mono hb2.size)
  clear HCV hb24 hb14 hb5
  go_wp2_with fail
  refine (C4.out w5 hb15).mono ?_
  rintro e w6 ⟨C, cc, rfl, hcc, hfc, hb6⟩
  have HFC := Lib.hid hfc.1
  have hb26 := hb25.trans (hb6.mono hb25.size)
  have hb16 := hb2.trans (hb26.mono hb2.size)
  obtain ⟨k, hk⟩ : ∃ k, K.length = k := ⟨_, rfl⟩
  rw [hk] at hcc HFC ⊢
  have HG6 := Lib.hid (HG.out.below hb26)
  clear hfc hb6 hk hb15 hb25 HG
  go_wp2_with fail
  go_loopw [6] (fun i wr => ∃ q : Nat, q ≤ N ∧ i = .int .i64 q ∧ Below w6.heap.size w6 wr) (fun i _ => N - (intOf i).toNat)
  case atStart => exact ⟨0, Nat.zero_le _, rfl, Below.refl _ _⟩
  case round =>
    obtain ⟨wo, rfl⟩ : ∃ wo : World, wo = wr := ⟨_, rfl⟩
    obtain ⟨i, hi, rfl, hbo⟩ := hrel
    by_cases hlt : i < N
    · have hGo := HG6.out.below hbo
      obtain ⟨bA, rfl, hbA, hbA2, hcell⟩ := hGo.outer.cells (by omega)
      obtain ⟨ys, hys⟩ : ∃ xs, T[i]? = some xs := ⟨_, List.getElem?_eq_getElem (by rw [HN.out]; exact hlt)⟩
      obtain ⟨B, d2, hrv, hmd2, hfr⟩ := hGo.rows.2 i ys hys
      have hcq := hcell i _ hrv
      rw [Nat.zero_add] at hcq
      have hyT := List.mem_of_getElem? hys
      have HSB : Hid (∀ W, Below wo.heap.size wo W → Calls Try.prog 55 #[.slice C k cc, .slice B ys.length d2] W (RetOps W (serialI K ys))) := fun W h =>
        C6.out W C B k cc _ d2 ys hyT (HFC.out.below (hbo.trans (h.mono hbo.size)) (Nat.le_refl _)) hcc (hfr.1.below h (Nat.le_refl _)) fun ad had => Nat.lt_of_lt_of_le (FreshInts.blk hfr ad had) h.size
      have HIS : Hid (∀ (W : World) (X : Option Addr) (q : Nat), Below wo.heap.size wo W → ROps W X (serialI K ys).length (serialI K ys) → (serialI K ys).length ≤ q → Calls Try.prog 40 #[.slice C k cc, .slice X (serialI K ys).length q] W fun e w' => e = .returned (.bool true) ∧ Below W.heap.size W w') := fun W X q h h2 h3 =>
        C7.out W C X k cc _ q ys hyT (HFC.out.below (hbo.trans (h.mono hbo.size)) (Nat.le_refl _)) hcc h2 h3
      have HFR := Lib.hid hfr.1
      have hii : (i : Int) < (N : Int) := by omega
      have hi0 : (0 : Int) ≤ (i : Int) := by omega
      have cd : wo.drew.cell? ⟨bA, i, none⟩ = some (.slice B ys.length d2) := hcq
      by_cases h0 : i = 0
      · have h0' : ¬ ((0 : Int) < (i : Int)) := by omega
        have hdi : decide ((0 : Int) < (i : Int)) = false := decide_eq_false h0'
        have hdn : decide (0 < i) = false := decide_eq_false (by omega)
        generalize serialI K ys = SX at *
        obtain ⟨yl, hyl⟩ : ∃ yl, ys.length = yl := ⟨_, rfl⟩
        rw [hyl] at cd HSB
        clear hGo hcell hys hrv hfr hcq hyl h0
        go_wp2_with fail
        refine wp_region_any (by kernel_rfl) ?_
        change wpAny _ _ _ _ _ _ _ (World.drew _)
        refine wpAny_take (i := 0) (v := ?_) rfl (by kernel_rfl) (by kernel_rfl) (by kernel_rfl) (fun _ _ _ h => h) (Or.inl ⟨by kernel_rfl, ?_⟩) ?_
        rotate_left
        · intro w; go_simp; try with_reducible rfl
        refine wpAny_take (i := 1) (v := ?_) rfl (by kernel_rfl) (by kernel_rfl) (by kernel_rfl) (fun _ _ _ h => h) (Or.inl ⟨by kernel_rfl, ?_⟩) ?_
        rotate_left
        · intro w; go_simp; try with_reducible rfl
        refine wpAny_take (i := 2) (v := ?_) rfl (by kernel_rfl) (by kernel_rfl) (by kernel_rfl) (fun _ _ _ h => h) (Or.inl ⟨by kernel_rfl, ?_⟩) ?_
        rotate_left
        · intro w; go_simp; try with_reducible rfl
        refine wpAny_take (i := 3) (v := ?_) rfl (by kernel_rfl) (by kernel_rfl) (by kernel_rfl) (fun _ _ _ h => h) (Or.inl ⟨by kernel_rfl, ?_⟩) ?_
        rotate_left
        · intro w; go_simp; try with_reducible rfl
        refine wpAny_take (i := 4) (v := ?_) rfl (by kernel_rfl) (by kernel_rfl) (by kernel_rfl) (fun _ _ _ h => h) (Or.inl ⟨by kernel_rfl, ?_⟩) ?_
        rotate_left
        · intro w; go_simp; try with_reducible rfl
        refine wpAny_ready (rs := [5]) (by kernel_rfl) (by simp) ?_
        refine AllReady.cons rfl (fun K hK => ?_) AllReady.nil
        go_simp
        refine hK _ _ ?_
        clear hK K
        refine wpAny_ready (rs := [6]) (by kernel_rfl) (by simp) ?_
        refine AllReady.cons rfl (fun K hK => ?_) AllReady.nil
        go_simp
        go_wp2_with (go_at_call 55; refine (HSB.out _ (Below.refl _ _).drew).mono ?_; rintro e w7 ⟨X, xc, rfl, hxc, hfx, hb7'⟩; have hb7 : Below wo.heap.size wo w7 := (Below.refl _ _).drew.trans hb7'; have HIS7 := Lib.hid (HIS.out w7 X xc hb7 hfx.1 hxc); clear hfx hb7')
        try (refine hK _ _ ?_; clear hK K)
        refine wpAny_ready (rs := [7]) (by kernel_rfl) (by simp) ?_
        refine AllReady.cons rfl (fun K hK => ?_) AllReady.nil
        go_simp
        go_wp2_with (go_at_call 40; refine HIS7.out.mono ?_; rintro e w8 ⟨rfl, hb8'⟩; have hb8 : Below wo.heap.size wo w8 := hb7.trans (hb8'.mono hb7.size))
        try (refine hK _ _ ?_; clear hK K)
        refine wpAny_take (i := 8) (v := ?_) rfl (by kernel_rfl) (by kernel_rfl) (by kernel_rfl) (fun _ _ _ h => h) (Or.inl ⟨by kernel_rfl, ?_⟩) ?_
        rotate_left
        · intro w; go_simp; try with_reducible rfl
        refine wpAny_take (i := 9) (v := ?_) rfl (by kernel_rfl) (by kernel_rfl) (by kernel_rfl) (fun _ _ _ h => h) (Or.inl ⟨by kernel_rfl, ?_⟩) ?_
        rotate_left
        · intro w; go_simp; try with_reducible rfl
        refine wpAny_take (i := 10) (v := ?_) rfl (by kernel_rfl) (by kernel_rfl) (by kernel_rfl) (fun _ _ _ h => h) (Or.inl ⟨by kernel_rfl, ?_⟩) ?_
        rotate_left
        · intro w; go_simp; try with_reducible rfl
        refine wpAny_take (i := 11) (v := ?_) rfl (by kernel_rfl) (by kernel_rfl) (by kernel_rfl) (fun _ _ _ h => h) (Or.inl ⟨by kernel_rfl, ?_⟩) ?_
        rotate_left
        · intro w; go_simp; try with_reducible rfl
        refine wpAny_take (i := 12) (v := ?_) rfl (by kernel_rfl) (by kernel_rfl) (by kernel_rfl) (fun _ _ _ h => h) (Or.inl ⟨by kernel_rfl, ?_⟩) ?_
        rotate_left
        · intro w; go_simp; try with_reducible rfl
        refine wpAny_take (i := 13) (v := undef) rfl (by kernel_rfl) (by kernel_rfl) (by kernel_rfl) (fun _ _ _ h => h) (Or.inr ⟨by kernel_rfl, rfl⟩) ?_
        refine wpAny_take (i := 14) (v := undef) rfl (by kernel_rfl) (by kernel_rfl) (by kernel_rfl) (fun _ _ _ h => h) (Or.inr ⟨by kernel_rfl, rfl⟩) ?_
        refine wpAny_take (i := 15) (v := undef) rfl (by kernel_rfl) (by kernel_rfl) (by kernel_rfl) (fun _ _ _ h => h) (Or.inr ⟨by kernel_rfl, rfl⟩) ?_
        refine wpAny_take (i := 16) (v := undef) rfl (by kernel_rfl) (by kernel_rfl) (by kernel_rfl) (fun _ _ _ h => h) (Or.inr ⟨by kernel_rfl, rfl⟩) ?_
        refine wpAny_take (i := 17) (v := undef) rfl (by kernel_rfl) (by kernel_rfl) (by kernel_rfl) (fun _ _ _ h => h) (Or.inr ⟨by kernel_rfl, rfl⟩) ?_
        refine wpAny_take (i := 18) (v := undef) rfl (by kernel_rfl) (by kernel_rfl) (by kernel_rfl) (fun _ _ _ h => h) (Or.inr ⟨by kernel_rfl, rfl⟩) ?_
        refine wpAny_take (i := 19) (v := undef) rfl (by kernel_rfl) (by kernel_rfl) (by kernel_rfl) (fun _ _ _ h => h) (Or.inr ⟨by kernel_rfl, rfl⟩) ?_
        refine wpAny_take (i := 20) (v := undef) rfl (by kernel_rfl) (by kernel_rfl) (by kernel_rfl) (fun _ _ _ h => h) (Or.inr ⟨by kernel_rfl, rfl⟩) ?_
        refine wpAny_take (i := 21) (v := undef) rfl (by kernel_rfl) (by kernel_rfl) (by kernel_rfl) (fun _ _ _ h => h) (Or.inr ⟨by kernel_rfl, rfl⟩) ?_
        refine wpAny_take (i := 22) (v := undef) rfl (by kernel_rfl) (by kernel_rfl) (by kernel_rfl) (fun _ _ _ h => h) (Or.inr ⟨by kernel_rfl, rfl⟩) ?_
        refine wpAny_take (i := 23) (v := ?_) rfl (by kernel_rfl) (by kernel_rfl) (by kernel_rfl) (fun _ _ _ h => h) (Or.inl ⟨by kernel_rfl, ?_⟩) ?_
        rotate_left
        · intro w; go_simp; try with_reducible rfl
        refine wpAny_take (i := 24) (v := ?_) rfl (by kernel_rfl) (by kernel_rfl) (by kernel_rfl) (fun _ _ _ h => h) (Or.inl ⟨by kernel_rfl, ?_⟩) ?_
        rotate_left
        · intro w; go_simp; try with_reducible rfl
        refine wpAny_done (by kernel_rfl) ?_ _
        try go_simp
        go_wp2_with fail
        go_roundw
        case rel => exact ⟨i + 1, by omega, by go_num, hbo.trans (hb8.mono hbo.size)⟩
        case measure => simp [intOf]; omega
      · obtain ⟨q, hq⟩ : ∃ q, i = q + 1 := ⟨i - 1, by omega⟩
        obtain ⟨xs, hxs⟩ : ∃ xs, T[q]? = some xs := ⟨_, List.getElem?_eq_getElem (by rw [HN.out]; omega)⟩
        obtain ⟨B1, d1, hrv1, hmd1, hfr1⟩ := hGo.rows.2 q xs hxs
        have hcp := hcell q _ hrv1
        rw [Nat.zero_add] at hcp
        have hne := H8.out i q xs ys hq hxs hys
        have HEI : Hid (∀ W, Below wo.heap.size wo W → Calls Try.prog 33 #[.slice B1 xs.length d1, .slice B ys.length d2] W fun e w' => e = .returned (.bool false) ∧ Below W.heap.size W w') := fun W h => by
          have := equalInts_any B1 B _ _ d1 d2 xs ys W (hfr1.1.below h (Nat.le_refl _)) (HFR.out.below h (Nat.le_refl _))
          rw [hne] at this; exact this
        have h0' : (0 : Int) < (i : Int) := by omega
        have hdi : decide ((0 : Int) < (i : Int)) = true := decide_eq_true h0'
        have hdn : decide (0 < i) = true := decide_eq_true (by omega)
        have hwq : IntKind.i64.wrap ((i : Int) - 1) = (q : Int) := by rw [IntWalk.i64_in _ (by omega)]; omega
        have hqN : (q : Int) < (N : Int) := by omega
        have hq0 : (0 : Int) ≤ (q : Int) := by omega
        have cdp : wo.drew.cell? ⟨bA, q, none⟩ = some (.slice B1 xs.length d1) := hcp
        generalize serialI K ys = SX at *
        obtain ⟨yl, hyl⟩ : ∃ yl, ys.length = yl := ⟨_, rfl⟩
        obtain ⟨xl, hxl⟩ : ∃ xl, xs.length = xl := ⟨_, rfl⟩
        rw [hyl] at cd HSB HEI hcq
        rw [hxl] at cdp HEI hcp
        have HCQ := Lib.hid hcq
        have HCP := Lib.hid hcp
        clear hGo hcell hys hrv hfr hcq hyl h0 hxs hrv1 hfr1 hcp hne hxl hq
        go_wp2_with fail
        refine wp_region_any (by kernel_rfl) ?_
        change wpAny _ _ _ _ _ _ _ (World.drew _)
        refine wpAny_take (i := 0) (v := ?_) rfl (by kernel_rfl) (by kernel_rfl) (by kernel_rfl) (fun _ _ _ h => h) (Or.inl ⟨by kernel_rfl, ?_⟩) ?_
        rotate_left
        · intro w; go_simp; try with_reducible rfl
        refine wpAny_take (i := 1) (v := ?_) rfl (by kernel_rfl) (by kernel_rfl) (by kernel_rfl) (fun _ _ _ h => h) (Or.inl ⟨by kernel_rfl, ?_⟩) ?_
        rotate_left
        · intro w; go_simp; try with_reducible rfl
        refine wpAny_take (i := 2) (v := ?_) rfl (by kernel_rfl) (by kernel_rfl) (by kernel_rfl) (fun _ _ _ h => h) (Or.inl ⟨by kernel_rfl, ?_⟩) ?_
        rotate_left
        · intro w; go_simp; try with_reducible rfl
        refine wpAny_take (i := 3) (v := ?_) rfl (by kernel_rfl) (by kernel_rfl) (by kernel_rfl) (fun _ _ _ h => h) (Or.inl ⟨by kernel_rfl, ?_⟩) ?_
        rotate_left
        · intro w; go_simp; try with_reducible rfl
        refine wpAny_take (i := 4) (v := ?_) rfl (by kernel_rfl) (by kernel_rfl) (by kernel_rfl) (fun _ _ _ h => h) (Or.inl ⟨by kernel_rfl, ?_⟩) ?_
        rotate_left
        · intro w; go_simp; try with_reducible rfl
        refine wpAny_ready (rs := [5]) (by kernel_rfl) (by simp) ?_
        refine AllReady.cons rfl (fun K hK => ?_) AllReady.nil
        go_simp
        refine hK _ _ ?_
        clear hK K
        refine wpAny_ready (rs := [6]) (by kernel_rfl) (by simp) ?_
        refine AllReady.cons rfl (fun K hK => ?_) AllReady.nil
        go_simp
        go_wp2_with (go_at_call 55; refine (HSB.out _ (Below.refl _ _).drew).mono ?_; rintro e w7 ⟨X, xc, rfl, hxc, hfx, hb7'⟩; have hb7 : Below wo.heap.size wo w7 := (Below.refl _ _).drew.trans hb7'; have HIS7 := Lib.hid (HIS.out w7 X xc hb7 hfx.1 hxc); clear hfx hb7')
        try (refine hK _ _ ?_; clear hK K)
        refine wpAny_ready (rs := [7]) (by kernel_rfl) (by simp) ?_
        refine AllReady.cons rfl (fun K hK => ?_) AllReady.nil
        go_simp
        go_wp2_with (go_at_call 40; refine HIS7.out.mono ?_; rintro e w8 ⟨rfl, hb8'⟩; have hb8 : Below wo.heap.size wo w8 := hb7.trans (hb8'.mono hb7.size); have e1 := (hb8.cell (p := ⟨bA, i, none⟩) hbA2).trans HCQ.out; have e2 := (hb8.cell (p := ⟨bA, q, none⟩) hbA2).trans HCP.out)
        try (refine hK _ _ ?_; clear hK K)
        refine wpAny_take (i := 8) (v := ?_) rfl (by kernel_rfl) (by kernel_rfl) (by kernel_rfl) (fun _ _ _ h => h) (Or.inl ⟨by kernel_rfl, ?_⟩) ?_
        rotate_left
        · intro w; go_simp; try with_reducible rfl
        refine wpAny_take (i := 9) (v := ?_) rfl (by kernel_rfl) (by kernel_rfl) (by kernel_rfl) (fun _ _ _ h => h) (Or.inl ⟨by kernel_rfl, ?_⟩) ?_
        rotate_left
        · intro w; go_simp; try with_reducible rfl
        refine wpAny_take (i := 10) (v := ?_) rfl (by kernel_rfl) (by kernel_rfl) (by kernel_rfl) (fun _ _ _ h => h) (Or.inl ⟨by kernel_rfl, ?_⟩) ?_
        rotate_left
        · intro w; go_simp; try with_reducible rfl
        refine wpAny_take (i := 11) (v := ?_) rfl (by kernel_rfl) (by kernel_rfl) (by kernel_rfl) (fun _ _ _ h => h) (Or.inl ⟨by kernel_rfl, ?_⟩) ?_
        rotate_left
        · intro w; go_simp; try with_reducible rfl
        refine wpAny_take (i := 12) (v := ?_) rfl (by kernel_rfl) (by kernel_rfl) (by kernel_rfl) (fun _ _ _ h => h) (Or.inl ⟨by kernel_rfl, ?_⟩) ?_
        rotate_left
        · intro w; go_simp; try with_reducible rfl
        refine wpAny_take (i := 13) (v := ?_) rfl (by kernel_rfl) (by kernel_rfl) (by kernel_rfl) (fun _ _ _ h => h) (Or.inl ⟨by kernel_rfl, ?_⟩) ?_
        rotate_left
        · intro w; go_simp; try with_reducible rfl
        refine wpAny_take (i := 14) (v := ?_) rfl (by kernel_rfl) (by kernel_rfl) (by kernel_rfl) (fun _ _ _ h => h) (Or.inl ⟨by kernel_rfl, ?_⟩) ?_
        rotate_left
        · intro w; go_simp; try with_reducible rfl
        refine wpAny_take (i := 15) (v := ?_) rfl (by kernel_rfl) (by kernel_rfl) (by kernel_rfl) (fun _ _ _ h => h) (Or.inl ⟨by kernel_rfl, ?_⟩) ?_
        rotate_left
        · intro w; go_simp; try with_reducible rfl
        refine wpAny_take (i := 16) (v := ?_) rfl (by kernel_rfl) (by kernel_rfl) (by kernel_rfl) (fun _ _ _ h => h) (Or.inl ⟨by kernel_rfl, ?_⟩) ?_
        rotate_left
        · intro w; go_simp; try with_reducible rfl
        refine wpAny_take (i := 18) (v := ?_) rfl (by kernel_rfl) (by kernel_rfl) (by kernel_rfl) (fun _ _ _ h => h) (Or.inl ⟨by kernel_rfl, ?_⟩) ?_
        rotate_left
        · intro w; go_simp; try with_reducible rfl
        refine wpAny_take (i := 19) (v := ?_) rfl (by kernel_rfl) (by kernel_rfl) (by kernel_rfl) (fun _ _ _ h => h) (Or.inl ⟨by kernel_rfl, ?_⟩) ?_
        rotate_left
        · intro w; go_simp; try with_reducible rfl
        refine wpAny_take (i := 20) (v := ?_) rfl (by kernel_rfl) (by kernel_rfl) (by kernel_rfl) (fun _ _ _ h => h) (Or.inl ⟨by kernel_rfl, ?_⟩) ?_
        rotate_left
        · intro w; go_simp; try with_reducible rfl
        refine wpAny_ready (rs := [17, 21]) (by kernel_rfl) (by simp) ?_
        refine AllReady.cons rfl (fun K hK => ?_) (AllReady.cons rfl (fun K hK => ?_) AllReady.nil)
        · go_simp
          refine hK _ _ ?_
          clear hK K
          refine wpAny_ready (rs := [21]) (by kernel_rfl) (by simp) ?_
          refine AllReady.cons rfl (fun K hK => ?_) AllReady.nil
          go_simp
          refine hK _ _ ?_
          clear hK K
          refine wpAny_ready (rs := [22]) (by kernel_rfl) (by simp) ?_
          refine AllReady.cons rfl (fun K hK => ?_) AllReady.nil
          go_simp
          go_wp2_with (go_at_call 33; refine (HEI.out _ hb8).mono ?_; rintro e w9 ⟨rfl, hb9'⟩; have hb9 : Below wo.heap.size wo w9 := hb8.trans (hb9'.mono hb8.size))
          try (refine hK _ _ ?_; clear hK K)
          refine wpAny_take (i := 23) (v := ?_) rfl (by kernel_rfl) (by kernel_rfl) (by kernel_rfl) (fun _ _ _ h => h) (Or.inl ⟨by kernel_rfl, ?_⟩) ?_
          rotate_left
          · intro w; go_simp; try with_reducible rfl
          refine wpAny_take (i := 24) (v := ?_) rfl (by kernel_rfl) (by kernel_rfl) (by kernel_rfl) (fun _ _ _ h => h) (Or.inl ⟨by kernel_rfl, ?_⟩) ?_
          rotate_left
          · intro w; go_simp; try with_reducible rfl
          refine wpAny_done (by kernel_rfl) ?_ _
          try go_simp
          go_wp2_with fail
          go_roundw
          case rel => exact ⟨i + 1, by omega, by go_num, hbo.trans (hb9.mono hbo.size)⟩
          case measure => simp [intOf]; omega
        · go_simp
          refine hK _ _ ?_
          clear hK K
          refine wpAny_ready (rs := [17]) (by kernel_rfl) (by simp) ?_
          refine AllReady.cons rfl (fun K hK => ?_) AllReady.nil
          go_simp
          refine hK _ _ ?_
          clear hK K
          refine wpAny_ready (rs := [22]) (by kernel_rfl) (by simp) ?_
          refine AllReady.cons rfl (fun K hK => ?_) AllReady.nil
          go_simp
          go_wp2_with (go_at_call 33; refine (HEI.out _ hb8).mono ?_; rintro e w9 ⟨rfl, hb9'⟩; have hb9 : Below wo.heap.size wo w9 := hb8.trans (hb9'.mono hb8.size))
          try (refine hK _ _ ?_; clear hK K)
          refine wpAny_take (i := 23) (v := ?_) rfl (by kernel_rfl) (by kernel_rfl) (by kernel_rfl) (fun _ _ _ h => h) (Or.inl ⟨by kernel_rfl, ?_⟩) ?_
          rotate_left
          · intro w; go_simp; try with_reducible rfl
          refine wpAny_take (i := 24) (v := ?_) rfl (by kernel_rfl) (by kernel_rfl) (by kernel_rfl) (fun _ _ _ h => h) (Or.inl ⟨by kernel_rfl, ?_⟩) ?_
          rotate_left
          · intro w; go_simp; try with_reducible rfl
          refine wpAny_done (by kernel_rfl) ?_ _
          try go_simp
          go_wp2_with fail
          go_roundw
          case rel => exact ⟨i + 1, by omega, by go_num, hbo.trans (hb9.mono hbo.size)⟩
          case measure => simp [intOf]; omega
    · obtain rfl : i = N := by omega
      have hb1o := hb16.trans (hbo.mono hb16.size)
      have HC := Lib.hid (C5.out wo hb1o)
      have hcbN : cb = decide (i = 0) := by rw [H9.out, HN.out]
      go_wp2_with fail
      refine HC.out.mono ?_
      rintro e w7 ⟨X, xc, rfl, _, _, hb7⟩
      have hb17 := hb1o.trans (hb7.mono hb1o.size)
      have HCB := Lib.hid hcbN
      by_cases h0 : i = 0
      · have hc1 : cb = true := by rw [hcbN]; simp [h0]
        have hi1 : ((i : Int) == 0) = true := by simp; omega
        clear hcbN HCB H9
        have H0 := Lib.hid h0
        clear h0
        subst hc1
        go_wp2_with fail
        go_ret
        exact ⟨by first | rfl | (have := H0.out; simp [this]), hb1.trans (hb17.mono hb1.size)⟩
      · have hc1 : cb = false := by rw [hcbN]; simp [h0]
        have hi1 : ((i : Int) == 0) = false := by simp; omega
        clear hcbN HCB H9
        have H0 := Lib.hid h0
        clear h0
        subst hc1
        go_wp2_with fail
        go_ret
        exact ⟨by first | rfl | (have := H0.out; simp [this]), hb1.trans (hb17.mono hb1.size)⟩
end Go.Proofs.Ytkbclcgdkbhgdaa
