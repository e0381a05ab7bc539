/-
  Texts that the proof rests on, joined: part 27.
-/
import Derived.StillTailTactics
import Derived.Test.YtncebpmckbcabaaSKp4
import Derived.Test.YtncebpmckbcabaaSKp26
namespace Go.Proofs.Ytncebpmckbcabaa
open Go.RowKit Go.BigFrame
set_option linter.unusedVariables false

/-- A call hands back a desk in new memory. -/
def RetDesk (w : World) (D : Dsk) (e : Ending) (w' : World) : Prop := ∃ V : DV, e = .returned V.val ∧ DeskAt w' w.heap.size V D ∧ Below w.heap.size w w'
theorem DeskAt.zero (w : World) {B : Nat} (hB : B ≤ w.heap.size) : DeskAt w B DV.nil Dsk.zero :=
  ⟨hB, World.ownsRow_nil w B _ 3, World.ownsRow_nil w B _ 3, World.ownsRow_nil w B _ 3, World.ownsRow_nil w B _ 1, fun b h => by cases h⟩
theorem run_start {w W : World} (hW : W = (w.alloc (.cells DV.nil.list.toArray 28)).alloc (.cells DV.nil.list.toArray 28)) :
    Pk w DV.nil w.heap.size (w.heap.size + 1) w.heap.size W DV.nil Dsk.zero := by
  have hR0 : Boxed W (w.heap.size + 1) DV.nil := by
    rw [hW]
    have := Boxed.new (w.alloc (.cells DV.nil.list.toArray 28)) DV.nil
    rw [show (w.alloc (.cells DV.nil.list.toArray 28)).heap.size = w.heap.size + 1 by simp] at this
    exact this
  exact ⟨DeskAt.zero W (by rw [hW]; simp; omega), by rw [hW]; exact ((DStep.refl w DV.nil).alloc _).alloc _, hR0, by rw [hW]; exact (Boxed.new w DV.nil).alloc _, by omega, by omega, Nat.le_refl _⟩
theorem notIn_nil (k : Nat) : NotIn DV.nil k := by
  refine ⟨?_, ?_, ?_, ?_⟩ <;> (intro e; cases e)
theorem DStep.below_nil {w w' : World} {V : DV} (h : DStep w DV.nil w' V) : Below w.heap.size w w' :=
  ⟨h.fr.os, h.fr.tape, h.fr.output, h.fr.size, fun k hk => h.fr.block k hk (notIn_nil k)⟩
/-- A list below stays where a desk is stored. -/
theorem run_put {w : World} {H b off n : Nat} {s : List OpV} (h : ROps w (some ⟨b, off, none⟩) n s) (hb : b < H) (V : DV) : ROps (putDesk w (H + 1) V) (some ⟨b, off, none⟩) n s := by
  unfold putDesk
  have key : ∀ {w : World} (i : Nat) (v : Value), ROps w (some ⟨b, off, none⟩) n s → ROps (w.setCell ⟨H + 1, i, none⟩ v) (some ⟨b, off, none⟩) n s := fun i v h =>
    h.grown grown_set fun ad had e => by injection had with had; subst had; injection e with e; simp at e; omega
  exact key _ _ (key _ _ (key _ _ (key _ _ h)))
set_option maxRecDepth 100000 in
set_option maxHeartbeats 4000000 in
theorem runLocks_die (A : Option Addr) (n c : Nat) (s : List OpV) (w : World) (hx : ROps w A n s) (hn : n ≤ 100)
    (hres : ∀ (N : Nat), N ≤ 1000 → ∀ (n B : Nat) (V : DV) (D : Dsk) (w : World), DeskAt w B V D → Bnd D N → msr D < n → Calls Try.prog 92 #[.string Rul.die.str, V.val] w (DRet w B V (settleD .die D))) :
    Calls Try.prog 44 #[.string Rul.die.str, .slice A n c] w (RetDesk w (runD .die s)) := by
  have hl := hx.1
  have HL := Lib.hid hl
  have HX := Lib.hid hx
  have HRES := Lib.hid hres
  obtain ⟨W, hW⟩ : ∃ W : World, W = (w.alloc (.cells DV.nil.list.toArray 28)).alloc (.cells DV.nil.list.toArray 28) := ⟨_, rfl⟩
  have HP0 := Lib.hid (run_start hW)
  have HXW : Hid (ROps W A n s) := by
    show ROps _ _ _ _
    have hb : Below w.heap.size w W := by rw [hW]; exact ((Below.refl _ _).alloc (Nat.le_refl _) _).alloc (by simp) _
    exact hx.below hb (Nat.le_refl _)
  unfold DV.list DV.nil at hW
  simp only at hW
  change W = (w.alloc (.cells #[.slice none 0 0, .slice none 0 0, .slice none 0 0, .slice none 0 0] _)).alloc (.cells #[.slice none 0 0, .slice none 0 0, .slice none 0 0, .slice none 0 0] _) at hW
  have HW3 := Lib.hid hW
  clear hW hx hl hres
  unfold Rul.str
  simp only
  go_enter Try.func44, Try.ntmps44
  go_wp2_with fail
  rw [← HW3.out]
  clear HW3
  go_loopw [6] (fun i wr => ∃ (k : Nat) (U : DV), k ≤ n ∧ i = .int .i64 k ∧ Pk w DV.nil w.heap.size (w.heap.size + 1) w.heap.size wr U (runD .die (s.take k)) ∧ ROps wr A n s) (fun i _ => n - (intOf i).toNat)
  case atStart => exact ⟨0, DV.nil, Nat.zero_le _, rfl, HP0.out, HXW.out⟩
  case round =>
    clear HP0 HXW
    obtain ⟨k, U, hk, rfl, hP, hXr⟩ := hrel
    obtain ⟨hbn, _⟩ := runD_facts (r := .die) (s := s) (fun h => by cases h) k
    obtain ⟨D, hDD⟩ : ∃ D, runD .die (s.take k) = D := ⟨_, rfl⟩
    rw [hDD] at hP hbn
    have hb1 := hbn.done
    have hb2 := hbn.locks
    have hb3 := hbn.dead
    have hb4 := hbn.wait
    obtain ⟨Ad, Aw, Al, Ak, nd, nw, nl, nk, cd, cw, cl, ck, rfl, hcs, h1, h2, h3, h4⟩ := hP.desk.forms
    have hbd : nd ≤ 600 ∧ nl ≤ 1800 ∧ nw ≤ 300 ∧ nk ≤ 600 := by omega
    have H1 := Lib.hid h1
    have H2 := Lib.hid h2
    have H3 := Lib.hid h3
    have H4 := Lib.hid h4
    have HP := Lib.hid hP
    have HXR := Lib.hid hXr
    have HBN := Lib.hid hbn
    have HDD := Lib.hid hDD
    have hgr := hP.lts
    obtain ⟨b0, b1, b2, b3⟩ := hP.box.cells
    simp only at b0 b1 b2 b3
    clear h1 h2 h3 h4 hb1 hb2 hb3 hb4 hbn hDD
    by_cases hlt : k < n
    · obtain ⟨bs, os, o, hA, hbl, ho, _⟩ := HX.out.at_ hlt
      subst hA
      have HBL := Lib.hid hbl
      have HO := Lib.hid ho
      obtain ⟨_, _, o', hA', _, ho', c0, c1, c2⟩ := hXr.at_ hlt
      injection hA' with hA'; injection hA' with e1 e2 _; subst e1; subst e2
      rw [HO.out] at ho'
      injection ho' with ho'
      subst ho'
      have hsu := runD_succ (r := .die) ho
      rw [HDD.out] at hsu
      have HSU := Lib.hid hsu
      have hkn : (k : Int) < (n : Int) := by omega
      have hk0 : (0 : Int) ≤ (k : Int) := by omega
      obtain ⟨tx, kd, it⟩ := o
      simp only at c0 c1 c2
      obtain ⟨bd, hbd2⟩ : ∃ b, (D.dead.any fun y => y == tx) = b := ⟨_, rfl⟩
      have HBD := Lib.hid hbd2
      have L3 := Later.cell b3
      have C0 := Later.cell c0
      have hrk : RInts wr Ak nk D.dead := RInts.of_own (hP.desk.deadN H4.out) (by omega)
      have HRK := Lib.hid hrk
      have hhi : ∀ u : Later wr, Calls Try.prog 90 #[.slice Ak nk ck, .int .i64 tx] u.1 fun e w' => e = .returned (.bool bd) ∧ Below u.1.heap.size u.1 w' := fun u => by
        have := hasInt_any Ak nk ck D.dead tx u.1 (HRK.out.later u)
        rw [HBD.out] at this
        exact this
      have HHI := Lib.hid hhi
      clear hP hXr ho hsu hbd2 hrk hhi b0 b1 b2 b3 c0 c1 c2
      go_wp2_with fail
      refine region_later (by kernel_rfl) (by kernel_rfl) ?_
      repeat (go_big_quiet_step ((go_at_call 90; exact later_call _ (HHI.out _))))
      refine wpQuiet_nil ?_
      rintro _ ⟨u, rfl⟩
      have HP2 := Lib.hid (HP.out.below u.2)
      have HX2 := Lib.hid (HXR.out.below u.2 (Nat.le_refl _))
      obtain ⟨w2, hw2⟩ : ∃ w2 : World, u.1 = w2 := ⟨_, rfl⟩
      rw [hw2] at HP2 HX2 ⊢
      clear hw2 L3 C0 HHI HRK HP HXR
      cases bd
      · have hst : runStep .die D ⟨tx, kd, it⟩ = if (opsOf D.wait tx).isEmpty then settleD .die (askD .die D ⟨tx, kd, it⟩) else waitD D ⟨tx, kd, it⟩ := by
          unfold runStep
          simp only
          rw [if_neg (by rw [HBD.out]; simp)]
        have HST := Lib.hid hst
        clear hst
        obtain ⟨d0, d1, d2, d3⟩ := HP2.out.box.cells
        obtain ⟨_, _, o', hA', _, ho', c0, c1, c2⟩ := HX2.out.at_ hlt
        injection hA' with hA'; injection hA' with e1 e2 _; subst e1; subst e2
        rw [HO.out] at ho'
        injection ho' with ho'
        subst ho'
        simp only at d0 d1 d2 d3 c0 c1 c2
        obtain ⟨wd, hwd⟩ : ∃ wd : World, wd = w2.drew := ⟨_, rfl⟩
        have HPD : Hid (Pk w DV.nil w.heap.size (w.heap.size + 1) w.heap.size wd ⟨.slice Ad nd cd, .slice Aw nw cw, .slice Al nl cl, .slice Ak nk ck⟩ D) := by show Pk _ _ _ _ _ _ _ _; rw [hwd]; exact HP2.out.drew
        have HXD : Hid (ROps wd (some ⟨bs, os, none⟩) n s) := by show ROps _ _ _ _; rw [hwd]; exact HX2.out
        have HWD := Lib.hid hwd
        clear hwd
        obtain ⟨MI, hMI⟩ : ∃ M, opsOf D.wait tx = M := ⟨_, rfl⟩
        have hOP := sopsOf_any Aw nw cw D.wait tx wd (ROps.of_own (HPD.out.desk.waitN H2.out) (by omega))
        rw [hMI] at hOP
        obtain ⟨q, hq⟩ : ∃ q, MI.length = q := ⟨_, rfl⟩
        have HQ := Lib.hid hq
        have HMI := Lib.hid hMI
        have HOP := Lib.hid hOP
        clear hOP hMI hq
        try go_wp2_with fail
        refine wp_region_still_tail 7 (by kernel_rfl) (by kernel_rfl) ?_
        simp only [List.take_succ_cons, List.take_zero, List.drop_succ_cons, List.drop_zero]
        repeat (first | still_step | fail)
        refine wpStill_nil ?_
        change wpList _ _ _ _ _ w2.drew
        rw [← HWD.out]
        by_cases hq0 : q = 0
        · subst hq0
          have hemp : (opsOf D.wait tx).isEmpty = true := by rw [HMI.out, List.eq_nil_of_length_eq_zero HQ.out]; rfl
          have HEMP := Lib.hid hemp
          clear hemp d0 d1 d2 d3 c0 c1 c2
          go_wp2_with (go_at_call 91; go_loud (refine HOP.out.mono ?_; rintro e w3 ⟨MA, mc, rfl, hmc, _, hb3⟩; rw [HQ.out] at hmc ⊢; have HP3 := Lib.hid (HPD.out.below hb3); have HX3 := Lib.hid (HXD.out.below hb3 (Nat.le_refl _)); clear hb3 HPD HXD HWD))
          obtain ⟨wd, hwd⟩ : ∃ wd : World, wd = w3.drew := ⟨_, rfl⟩
          have HPD : Hid (Pk w DV.nil w.heap.size (w.heap.size + 1) w.heap.size wd ⟨.slice Ad nd cd, .slice Aw nw cw, .slice Al nl cl, .slice Ak nk ck⟩ D) := by show Pk _ _ _ _ _ _ _ _; rw [hwd]; exact HP3.out.drew
          have HXD : Hid (ROps wd (some ⟨bs, os, none⟩) n s) := by show ROps _ _ _ _; rw [hwd]; exact HX3.out
          have HWD := Lib.hid hwd
          clear hwd
          obtain ⟨d0, d1, d2, d3⟩ := HPD.out.box.cells
          obtain ⟨_, _, o', hA', _, ho', c0, c1, c2⟩ := HXD.out.at_ hlt
          injection hA' with hA'; injection hA' with e1 e2 _; subst e1; subst e2
          rw [HO.out] at ho'
          injection ho' with ho'
          subst ho'
          simp only at d0 d1 d2 d3 c0 c1 c2
          have hak := ask_die w.heap.size _ D ⟨tx, kd, it⟩ wd HPD.out.desk (show D.locks.length ≤ 9000 by have := H3.out; omega) (show D.done.length ≤ 9000 by have := H1.out; omega) (show D.wait.length ≤ 9000 by have := H2.out; omega) (show D.dead.length ≤ 9000 by have := H4.out; omega)
          simp only [DV.val, OpV.val, Rul.str] at hak
          have HAK := Lib.hid hak
          clear hak
          try go_wp2_with fail
          refine wp_region_any (by kernel_rfl) ?_
          change wpAny _ _ _ _ _ _ _ (World.drew _)
          rw [← HWD.out]
          refine wpAny_take (i := 0) (v := ?_) rfl (by kernel_rfl) (by kernel_rfl) (by kernel_rfl) (fun _ _ _ h => h) (Or.inl ⟨by kernel_rfl, ?_⟩) ?_
          rotate_left
          · intro w; go_simp; try with_reducible rfl
          refine wpAny_take (i := 1) (v := ?_) rfl (by kernel_rfl) (by kernel_rfl) (by kernel_rfl) (fun _ _ _ h => h) (Or.inl ⟨by kernel_rfl, ?_⟩) ?_
          rotate_left
          · intro w; go_simp; try with_reducible rfl
          refine wpAny_take (i := 3) (v := ?_) rfl (by kernel_rfl) (by kernel_rfl) (by kernel_rfl) (fun _ _ _ h => h) (Or.inl ⟨by kernel_rfl, ?_⟩) ?_
          rotate_left
          · intro w; go_simp; try with_reducible rfl
          refine wpAny_take (i := 4) (v := ?_) rfl (by kernel_rfl) (by kernel_rfl) (by kernel_rfl) (fun _ _ _ h => h) (Or.inl ⟨by kernel_rfl, ?_⟩) ?_
          rotate_left
          · intro w; go_simp; try with_reducible rfl
          refine wpAny_take (i := 5) (v := ?_) rfl (by kernel_rfl) (by kernel_rfl) (by kernel_rfl) (fun _ _ _ h => h) (Or.inl ⟨by kernel_rfl, ?_⟩) ?_
          rotate_left
          · intro w; go_simp; try with_reducible rfl
          refine wpAny_ready (rs := [2, 6]) (by kernel_rfl) (by simp) ?_
          refine AllReady.cons rfl (fun K hK => ?_) (AllReady.cons rfl (fun K hK => ?_) (AllReady.nil))
          · go_simp
            try (refine hK _ _ ?_; clear hK K)
            refine wpAny_ready (rs := [6]) (by kernel_rfl) (by simp) ?_
            refine AllReady.cons rfl (fun K hK => ?_) AllReady.nil
            go_simp
            try (refine hK _ _ ?_; clear hK K)
            refine wpAny_ready (rs := [7]) (by kernel_rfl) (by simp) ?_
            refine AllReady.cons rfl (fun K hK => ?_) AllReady.nil
            go_simp
            clear d0 d1 d2 d3 c0 c1 c2
            go_wp2_with (go_at_call 93; go_loud (refine HAK.out.mono ?_; rintro e w4 ⟨V4, rfl, hD4, hS4⟩; have hbn4 := HBN.out.ask .die ⟨tx, kd, it⟩; have hre := HRES.out (6 * k + 6) (by omega) _ _ V4 _ w4 hD4 hbn4 (Nat.lt_succ_self _); obtain ⟨Ad4, Aw4, Al4, Ak4, nd4, nw4, nl4, nk4, cd4, cw4, cl4, ck4, rfl, _⟩ := hD4.forms; simp only [DV.val, Rul.str] at hre; have HRE := Lib.hid hre; have HS4 := Lib.hid hS4; clear hre hS4 hD4 hbn4; unfold DV.val; simp only))
            try (refine hK _ _ ?_; clear hK K)
            refine wpAny_ready (rs := [8]) (by kernel_rfl) (by simp) ?_
            refine AllReady.cons rfl (fun K hK => ?_) AllReady.nil
            go_simp
            go_wp2_with (go_at_call 92; go_loud (refine HRE.out.mono ?_; rintro e w5 ⟨V5, rfl, hD5, hS5⟩; obtain ⟨Ad5, Aw5, Al5, Ak5, nd5, nw5, nl5, nk5, cd5, cw5, cl5, ck5, rfl, _⟩ := hD5.forms; have hSt := HS4.out.trans hS5; obtain ⟨hB5, _, _⟩ := HPD.out.mid hSt; have hX5 := hSt.ops HXD.out (fun ad had => by injection had with had; subst had; exact HPD.out.desk.low HBL.out); have hp5 := HPD.out.put hD5 hSt; have hx5 : ROps (putDesk w5 (w.heap.size + 1) ⟨.slice Ad5 nd5 cd5, .slice Aw5 nw5 cw5, .slice Al5 nl5 cl5, .slice Ak5 nk5 ck5⟩) (some ⟨bs, os, none⟩) n s := (run_put hX5 HBL.out _); simp only [putDesk] at hp5 hx5; obtain ⟨y0, y1, y2, y3⟩ := hB5.cells; simp only at y0 y1 y2 y3; have s0 := hB5.soft 0; have s1 := hB5.soft 1; have s2 := hB5.soft 2; have s3 := hB5.soft 3; have HF := Lib.hid (And.intro hp5 hx5); clear hSt hB5 hX5 hp5 hx5 hS5 hD5; unfold DV.val; simp only))
            try (refine hK _ _ ?_; clear hK K)
            refine wpAny_ready (rs := [9]) (by kernel_rfl) (by simp) ?_
            refine AllReady.cons rfl (fun K hK => ?_) AllReady.nil
            go_simp
            try (refine hK _ _ ?_; clear hK K)
            refine wpAny_done (by kernel_rfl) ?_ _
            try go_simp
            go_wp2_with fail
            go_roundw
            case rel => exact ⟨k + 1, _, by omega, by go_num, by rw [HSU.out, HST.out, if_pos HEMP.out]; exact HF.out.1, HF.out.2⟩
            case measure => simp [intOf]; omega
          · go_simp
            try (refine hK _ _ ?_; clear hK K)
            refine wpAny_ready (rs := [2]) (by kernel_rfl) (by simp) ?_
            refine AllReady.cons rfl (fun K hK => ?_) AllReady.nil
            go_simp
            try (refine hK _ _ ?_; clear hK K)
            refine wpAny_ready (rs := [7]) (by kernel_rfl) (by simp) ?_
            refine AllReady.cons rfl (fun K hK => ?_) AllReady.nil
            go_simp
            clear d0 d1 d2 d3 c0 c1 c2
            go_wp2_with (go_at_call 93; go_loud (refine HAK.out.mono ?_; rintro e w4 ⟨V4, rfl, hD4, hS4⟩; have hbn4 := HBN.out.ask .die ⟨tx, kd, it⟩; have hre := HRES.out (6 * k + 6) (by omega) _ _ V4 _ w4 hD4 hbn4 (Nat.lt_succ_self _); obtain ⟨Ad4, Aw4, Al4, Ak4, nd4, nw4, nl4, nk4, cd4, cw4, cl4, ck4, rfl, _⟩ := hD4.forms; simp only [DV.val, Rul.str] at hre; have HRE := Lib.hid hre; have HS4 := Lib.hid hS4; clear hre hS4 hD4 hbn4; unfold DV.val; simp only))
            try (refine hK _ _ ?_; clear hK K)
            refine wpAny_ready (rs := [8]) (by kernel_rfl) (by simp) ?_
            refine AllReady.cons rfl (fun K hK => ?_) AllReady.nil
            go_simp
            go_wp2_with (go_at_call 92; go_loud (refine HRE.out.mono ?_; rintro e w5 ⟨V5, rfl, hD5, hS5⟩; obtain ⟨Ad5, Aw5, Al5, Ak5, nd5, nw5, nl5, nk5, cd5, cw5, cl5, ck5, rfl, _⟩ := hD5.forms; have hSt := HS4.out.trans hS5; obtain ⟨hB5, _, _⟩ := HPD.out.mid hSt; have hX5 := hSt.ops HXD.out (fun ad had => by injection had with had; subst had; exact HPD.out.desk.low HBL.out); have hp5 := HPD.out.put hD5 hSt; have hx5 : ROps (putDesk w5 (w.heap.size + 1) ⟨.slice Ad5 nd5 cd5, .slice Aw5 nw5 cw5, .slice Al5 nl5 cl5, .slice Ak5 nk5 ck5⟩) (some ⟨bs, os, none⟩) n s := (run_put hX5 HBL.out _); simp only [putDesk] at hp5 hx5; obtain ⟨y0, y1, y2, y3⟩ := hB5.cells; simp only at y0 y1 y2 y3; have s0 := hB5.soft 0; have s1 := hB5.soft 1; have s2 := hB5.soft 2; have s3 := hB5.soft 3; have HF := Lib.hid (And.intro hp5 hx5); clear hSt hB5 hX5 hp5 hx5 hS5 hD5; unfold DV.val; simp only))
            try (refine hK _ _ ?_; clear hK K)
            refine wpAny_ready (rs := [9]) (by kernel_rfl) (by simp) ?_
            refine AllReady.cons rfl (fun K hK => ?_) AllReady.nil
            go_simp
            try (refine hK _ _ ?_; clear hK K)
            refine wpAny_done (by kernel_rfl) ?_ _
            try go_simp
            go_wp2_with fail
            go_roundw
            case rel => exact ⟨k + 1, _, by omega, by go_num, by rw [HSU.out, HST.out, if_pos HEMP.out]; exact HF.out.1, HF.out.2⟩
            case measure => simp [intOf]; omega
        · have hemp : (opsOf D.wait tx).isEmpty = false := by
            rw [HMI.out]
            cases MI with
            | nil => exact absurd HQ.out.symm hq0
            | cons _ _ => rfl
          have HEMP := Lib.hid hemp
          clear hemp d0 d1 d2 d3 c0 c1 c2
          go_wp2_with (go_at_call 91; go_loud (refine HOP.out.mono ?_; rintro e w3 ⟨MA, mc, rfl, hmc, _, hb3⟩; rw [HQ.out] at hmc ⊢; have HP3 := Lib.hid (HPD.out.below hb3); have HX3 := Lib.hid (HXD.out.below hb3 (Nat.le_refl _)); clear hb3 HPD HXD HWD))
          obtain ⟨wd, hwd⟩ : ∃ wd : World, wd = w3.drew := ⟨_, rfl⟩
          have HPD : Hid (Pk w DV.nil w.heap.size (w.heap.size + 1) w.heap.size wd ⟨.slice Ad nd cd, .slice Aw nw cw, .slice Al nl cl, .slice Ak nk ck⟩ D) := by show Pk _ _ _ _ _ _ _ _; rw [hwd]; exact HP3.out.drew
          have HXD : Hid (ROps wd (some ⟨bs, os, none⟩) n s) := by show ROps _ _ _ _; rw [hwd]; exact HX3.out
          have HWD := Lib.hid hwd
          clear hwd
          try go_wp2_with fail
          obtain ⟨d0, d1, d2, d3⟩ := HPD.out.box.cells
          obtain ⟨_, _, o', hA', _, ho', c0, c1, c2⟩ := HXD.out.at_ hlt
          injection hA' with hA'; injection hA' with e1 e2 _; subst e1; subst e2
          rw [HO.out] at ho'
          injection ho' with ho'
          subst ho'
          simp only at d0 d1 d2 d3 c0 c1 c2
          have hbd3 := HPD.out.desk.base
          have hgd : w.heap.size + 1 < wd.heap.size := HPD.out.lts.1
          refine wp_region_any (by kernel_rfl) ?_
          change wpAny _ _ _ _ _ _ _ (World.drew _)
          rw [← HWD.out]
          refine wpAny_take (i := 0) (v := ?_) rfl (by kernel_rfl) (by kernel_rfl) (by kernel_rfl) (fun _ _ _ h => h) (Or.inl ⟨by kernel_rfl, ?_⟩) ?_
          rotate_left
          · intro w; go_simp; try with_reducible rfl
          refine wpAny_take (i := 2) (v := ?_) rfl (by kernel_rfl) (by kernel_rfl) (by kernel_rfl) (fun _ _ _ h => h) (Or.inl ⟨by kernel_rfl, ?_⟩) ?_
          rotate_left
          · intro w; go_simp; try with_reducible rfl
          refine wpAny_take (i := 3) (v := ?_) rfl (by kernel_rfl) (by kernel_rfl) (by kernel_rfl) (fun _ _ _ h => h) (Or.inl ⟨by kernel_rfl, ?_⟩) ?_
          rotate_left
          · intro w; go_simp; try with_reducible rfl
          refine wpAny_take (i := 4) (v := ?_) rfl (by kernel_rfl) (by kernel_rfl) (by kernel_rfl) (fun _ _ _ h => h) (Or.inl ⟨by kernel_rfl, ?_⟩) ?_
          rotate_left
          · intro w; go_simp; try with_reducible rfl
          refine wpAny_ready (rs := [1, 5]) (by kernel_rfl) (by simp) ?_
          refine AllReady.cons rfl (fun K hK => ?_) (AllReady.cons rfl (fun K hK => ?_) (AllReady.nil))
          · go_simp
            try (refine hK _ _ ?_; clear hK K)
            refine wpAny_ready (rs := [5]) (by kernel_rfl) (by simp) ?_
            refine AllReady.cons rfl (fun K hK => ?_) AllReady.nil
            go_simp
            try (refine hK _ _ ?_; clear hK K)
            refine wpAny_ready (rs := [6]) (by kernel_rfl) (by simp) ?_
            refine AllReady.cons rfl (fun K hK => ?_) AllReady.nil
            go_simp
            try (refine hK _ _ ?_; clear hK K)
            refine wpAny_ready (rs := [7]) (by kernel_rfl) (by simp) ?_
            refine AllReady.cons rfl (fun K hK => ?_) AllReady.nil
            refine step_ops (.tmp 33) (.tmp 38) (c := 1) ((HPD.out.desk.waitN (n := nw) H2.out).alloc _) (Nat.le_trans HPD.out.desk.base (by simp)) (ROps.lit1 _ ⟨_, _, _⟩ _) ?_ ?_ ?_ ?_ ?_ ?_
            · omega
            · rfl
            · rfl
            · rfl
            · rfl
            intro v8 w8 hown8 hg8 hat8; obtain ⟨A8, c8, rfl, hc8⟩ := own_form2 hown8; have hnoX : ∀ ad, (some ⟨bs, os, none⟩ : Option Addr) = some ad → (Value.slice Aw nw cw).ownBlock ≠ some ad.block := (fun ad had => by injection had with had; subst had; exact (HPD.out.desk.low HBL.out).2.1); have hX8 := (HXD.out.below ((Below.refl _ _).alloc (Nat.le_refl _) (.cells #[.int .i64 tx, .int .i64 kd, .int .i64 it] 62)) (Nat.le_refl _)).grown hg8 hnoX; obtain ⟨hB8, _, hP8⟩ := (HPD.out.alloc (.cells #[.int .i64 tx, .int .i64 kd, .int .i64 it] 62)).waitGrown hg8 hown8 hat8; obtain ⟨q0, q1, q2, q3⟩ := hB8.cells; simp only at q0 q1 q2 q3; have f1 := hB8.soft 1; have hX9 : ROps (w8.setCell ⟨w.heap.size + 1, 1, none⟩ (.slice A8 (nw + 1) c8)) (some ⟨bs, os, none⟩) n s := hX8.grown grown_set (fun ad had e => by injection had with had; subst had; injection e with e; simp at e; have := HBL.out; omega); have HF := Lib.hid (And.intro hP8 hX9); clear hB8 hP8 hX8 hX9 hnoX hg8 hown8 hat8
            try (refine hK _ _ ?_; clear hK K)
            refine wpAny_ready (rs := [8]) (by kernel_rfl) (by simp) ?_
            refine AllReady.cons rfl (fun K hK => ?_) AllReady.nil
            go_simp
            try (refine hK _ _ ?_; clear hK K)
            refine wpAny_ready (rs := [9]) (by kernel_rfl) (by simp) ?_
            refine AllReady.cons rfl (fun K hK => ?_) AllReady.nil
            go_simp
            try (refine hK _ _ ?_; clear hK K)
            refine wpAny_done (by kernel_rfl) ?_ _
            try go_simp
            go_wp2_with fail
            go_roundw
            case rel => exact ⟨k + 1, _, by omega, by go_num, by rw [HSU.out, HST.out, if_neg (by rw [HEMP.out]; simp)]; exact HF.out.1, HF.out.2⟩
            case measure => simp [intOf]; omega
          · go_simp
            try (refine hK _ _ ?_; clear hK K)
            refine wpAny_ready (rs := [1, 6]) (by kernel_rfl) (by simp) ?_
            refine AllReady.cons rfl (fun K hK => ?_) (AllReady.cons rfl (fun K hK => ?_) (AllReady.nil))
            · go_simp
              try (refine hK _ _ ?_; clear hK K)
              refine wpAny_ready (rs := [6]) (by kernel_rfl) (by simp) ?_
              refine AllReady.cons rfl (fun K hK => ?_) AllReady.nil
              go_simp
              try (refine hK _ _ ?_; clear hK K)
              refine wpAny_ready (rs := [7]) (by kernel_rfl) (by simp) ?_
              refine AllReady.cons rfl (fun K hK => ?_) AllReady.nil
              refine step_ops (.tmp 33) (.tmp 38) (c := 1) ((HPD.out.desk.waitN (n := nw) H2.out).alloc _) (Nat.le_trans HPD.out.desk.base (by simp)) (ROps.lit1 _ ⟨_, _, _⟩ _) ?_ ?_ ?_ ?_ ?_ ?_
              · omega
              · rfl
              · rfl
              · rfl
              · rfl
              intro v8 w8 hown8 hg8 hat8; obtain ⟨A8, c8, rfl, hc8⟩ := own_form2 hown8; have hnoX : ∀ ad, (some ⟨bs, os, none⟩ : Option Addr) = some ad → (Value.slice Aw nw cw).ownBlock ≠ some ad.block := (fun ad had => by injection had with had; subst had; exact (HPD.out.desk.low HBL.out).2.1); have hX8 := (HXD.out.below ((Below.refl _ _).alloc (Nat.le_refl _) (.cells #[.int .i64 tx, .int .i64 kd, .int .i64 it] 62)) (Nat.le_refl _)).grown hg8 hnoX; obtain ⟨hB8, _, hP8⟩ := (HPD.out.alloc (.cells #[.int .i64 tx, .int .i64 kd, .int .i64 it] 62)).waitGrown hg8 hown8 hat8; obtain ⟨q0, q1, q2, q3⟩ := hB8.cells; simp only at q0 q1 q2 q3; have f1 := hB8.soft 1; have hX9 : ROps (w8.setCell ⟨w.heap.size + 1, 1, none⟩ (.slice A8 (nw + 1) c8)) (some ⟨bs, os, none⟩) n s := hX8.grown grown_set (fun ad had e => by injection had with had; subst had; injection e with e; simp at e; have := HBL.out; omega); have HF := Lib.hid (And.intro hP8 hX9); clear hB8 hP8 hX8 hX9 hnoX hg8 hown8 hat8
              try (refine hK _ _ ?_; clear hK K)
              refine wpAny_ready (rs := [8]) (by kernel_rfl) (by simp) ?_
              refine AllReady.cons rfl (fun K hK => ?_) AllReady.nil
              go_simp
              try (refine hK _ _ ?_; clear hK K)
              refine wpAny_ready (rs := [9]) (by kernel_rfl) (by simp) ?_
              refine AllReady.cons rfl (fun K hK => ?_) AllReady.nil
              go_simp
              try (refine hK _ _ ?_; clear hK K)
              refine wpAny_done (by kernel_rfl) ?_ _
              try go_simp
              go_wp2_with fail
              go_roundw
              case rel => exact ⟨k + 1, _, by omega, by go_num, by rw [HSU.out, HST.out, if_neg (by rw [HEMP.out]; simp)]; exact HF.out.1, HF.out.2⟩
              case measure => simp [intOf]; omega
            · go_simp
              try (refine hK _ _ ?_; clear hK K)
              refine wpAny_ready (rs := [1]) (by kernel_rfl) (by simp) ?_
              refine AllReady.cons rfl (fun K hK => ?_) AllReady.nil
              go_simp
              try (refine hK _ _ ?_; clear hK K)
              refine wpAny_ready (rs := [7]) (by kernel_rfl) (by simp) ?_
              refine AllReady.cons rfl (fun K hK => ?_) AllReady.nil
              refine step_ops (.tmp 33) (.tmp 38) (c := 1) ((HPD.out.desk.waitN (n := nw) H2.out).alloc _) (Nat.le_trans HPD.out.desk.base (by simp)) (ROps.lit1 _ ⟨_, _, _⟩ _) ?_ ?_ ?_ ?_ ?_ ?_
              · omega
              · rfl
              · rfl
              · rfl
              · rfl
              intro v8 w8 hown8 hg8 hat8; obtain ⟨A8, c8, rfl, hc8⟩ := own_form2 hown8; have hnoX : ∀ ad, (some ⟨bs, os, none⟩ : Option Addr) = some ad → (Value.slice Aw nw cw).ownBlock ≠ some ad.block := (fun ad had => by injection had with had; subst had; exact (HPD.out.desk.low HBL.out).2.1); have hX8 := (HXD.out.below ((Below.refl _ _).alloc (Nat.le_refl _) (.cells #[.int .i64 tx, .int .i64 kd, .int .i64 it] 62)) (Nat.le_refl _)).grown hg8 hnoX; obtain ⟨hB8, _, hP8⟩ := (HPD.out.alloc (.cells #[.int .i64 tx, .int .i64 kd, .int .i64 it] 62)).waitGrown hg8 hown8 hat8; obtain ⟨q0, q1, q2, q3⟩ := hB8.cells; simp only at q0 q1 q2 q3; have f1 := hB8.soft 1; have hX9 : ROps (w8.setCell ⟨w.heap.size + 1, 1, none⟩ (.slice A8 (nw + 1) c8)) (some ⟨bs, os, none⟩) n s := hX8.grown grown_set (fun ad had e => by injection had with had; subst had; injection e with e; simp at e; have := HBL.out; omega); have HF := Lib.hid (And.intro hP8 hX9); clear hB8 hP8 hX8 hX9 hnoX hg8 hown8 hat8
              try (refine hK _ _ ?_; clear hK K)
              refine wpAny_ready (rs := [8]) (by kernel_rfl) (by simp) ?_
              refine AllReady.cons rfl (fun K hK => ?_) AllReady.nil
              go_simp
              try (refine hK _ _ ?_; clear hK K)
              refine wpAny_ready (rs := [9]) (by kernel_rfl) (by simp) ?_
              refine AllReady.cons rfl (fun K hK => ?_) AllReady.nil
              go_simp
              try (refine hK _ _ ?_; clear hK K)
              refine wpAny_done (by kernel_rfl) ?_ _
              try go_simp
              go_wp2_with fail
              go_roundw
              case rel => exact ⟨k + 1, _, by omega, by go_num, by rw [HSU.out, HST.out, if_neg (by rw [HEMP.out]; simp)]; exact HF.out.1, HF.out.2⟩
              case measure => simp [intOf]; omega
      · have hst : runStep .die D ⟨tx, kd, it⟩ = D := by unfold runStep; simp only; rw [if_pos HBD.out]
        have HST := Lib.hid hst
        clear hst
        go_wp2_with fail
        go_roundw
        case rel => exact ⟨k + 1, _, by omega, by go_num, by rw [HSU.out, HST.out]; exact HP2.out, HX2.out⟩
        case measure => simp [intOf]; omega
    · have e : s.take k = s := List.take_of_length_le (by have := HL.out; omega)
      have hDs : runD .die s = D := by rw [← HDD.out, e]
      obtain ⟨y0, y1, y2, y3⟩ := hP.res.cells
      unfold DV.nil at y0 y1 y2 y3
      simp only at y0 y1 y2 y3
      have s0 := hP.res.soft 0
      have s1 := hP.res.soft 1
      have s2 := hP.res.soft 2
      have s3 := hP.res.soft 3
      have hF := hP.outSame
      simp only [putDesk] at hF
      have HF := Lib.hid hF
      have HDS := Lib.hid hDs
      clear hP hXr hF e hDs
      go_wp2_with fail
      obtain ⟨d0, d1, d2, d3⟩ := HF.out.2.2.cells
      simp only at d0 d1 d2 d3
      refine bodyPost_ret (v := .agg #[.slice Ad nd cd, .slice Aw nw cw, .slice Al nl cl, .slice Ak nk ck]) (by simp [results, Try.results44, go_sem, d0, d1, d2, d3]) rfl ?_
      rw [HDS.out]
      exact ⟨⟨.slice Ad nd cd, .slice Aw nw cw, .slice Al nl cl, .slice Ak nk ck⟩, rfl, HF.out.1, HF.out.2.1.below_nil⟩

set_option maxRecDepth 100000 in
set_option maxHeartbeats 4000000 in
theorem runLocks_wait (A : Option Addr) (n c : Nat) (s : List OpV) (w : World) (hx : ROps w A n s) (hn : n ≤ 100)
    (hres : ∀ (N : Nat), N ≤ 1000 → ∀ (n B : Nat) (V : DV) (D : Dsk) (w : World), DeskAt w B V D → Bnd D N → msr D < n → Calls Try.prog 92 #[.string Rul.wait.str, V.val] w (DRet w B V (settleD .wait D))) :
    Calls Try.prog 44 #[.string Rul.wait.str, .slice A n c] w (RetDesk w (runD .wait s)) := by
  have hl := hx.1
  have HL := Lib.hid hl
  have HX := Lib.hid hx
  have HRES := Lib.hid hres
  obtain ⟨W, hW⟩ : ∃ W : World, W = (w.alloc (.cells DV.nil.list.toArray 28)).alloc (.cells DV.nil.list.toArray 28) := ⟨_, rfl⟩
  have HP0 := Lib.hid (run_start hW)
  have HXW : Hid (ROps W A n s) := by
    show ROps _ _ _ _
    have hb : Below w.heap.size w W := by rw [hW]; exact ((Below.refl _ _).alloc (Nat.le_refl _) _).alloc (by simp) _
    exact hx.below hb (Nat.le_refl _)
  unfold DV.list DV.nil at hW
  simp only at hW
  change W = (w.alloc (.cells #[.slice none 0 0, .slice none 0 0, .slice none 0 0, .slice none 0 0] _)).alloc (.cells #[.slice none 0 0, .slice none 0 0, .slice none 0 0, .slice none 0 0] _) at hW
  have HW3 := Lib.hid hW
  clear hW hx hl hres
  unfold Rul.str
  simp only
  go_enter Try.func44, Try.ntmps44
  go_wp2_with fail
  rw [← HW3.out]
  clear HW3
  go_loopw [6] (fun i wr => ∃ (k : Nat) (U : DV), k ≤ n ∧ i = .int .i64 k ∧ Pk w DV.nil w.heap.size (w.heap.size + 1) w.heap.size wr U (runD .wait (s.take k)) ∧ ROps wr A n s) (fun i _ => n - (intOf i).toNat)
  case atStart => exact ⟨0, DV.nil, Nat.zero_le _, rfl, HP0.out, HXW.out⟩
  case round =>
    clear HP0 HXW
    obtain ⟨k, U, hk, rfl, hP, hXr⟩ := hrel
    obtain ⟨hbn, _⟩ := runD_facts (r := .wait) (s := s) (fun h => by cases h) k
    obtain ⟨D, hDD⟩ : ∃ D, runD .wait (s.take k) = D := ⟨_, rfl⟩
    rw [hDD] at hP hbn
    have hb1 := hbn.done
    have hb2 := hbn.locks
    have hb3 := hbn.dead
    have hb4 := hbn.wait
    obtain ⟨Ad, Aw, Al, Ak, nd, nw, nl, nk, cd, cw, cl, ck, rfl, hcs, h1, h2, h3, h4⟩ := hP.desk.forms
    have hbd : nd ≤ 600 ∧ nl ≤ 1800 ∧ nw ≤ 300 ∧ nk ≤ 600 := by omega
    have H1 := Lib.hid h1
    have H2 := Lib.hid h2
    have H3 := Lib.hid h3
    have H4 := Lib.hid h4
    have HP := Lib.hid hP
    have HXR := Lib.hid hXr
    have HBN := Lib.hid hbn
    have HDD := Lib.hid hDD
    have hgr := hP.lts
    obtain ⟨b0, b1, b2, b3⟩ := hP.box.cells
    simp only at b0 b1 b2 b3
    clear h1 h2 h3 h4 hb1 hb2 hb3 hb4 hbn hDD
    by_cases hlt : k < n
    · obtain ⟨bs, os, o, hA, hbl, ho, _⟩ := HX.out.at_ hlt
      subst hA
      have HBL := Lib.hid hbl
      have HO := Lib.hid ho
      obtain ⟨_, _, o', hA', _, ho', c0, c1, c2⟩ := hXr.at_ hlt
      injection hA' with hA'; injection hA' with e1 e2 _; subst e1; subst e2
      rw [HO.out] at ho'
      injection ho' with ho'
      subst ho'
      have hsu := runD_succ (r := .wait) ho
      rw [HDD.out] at hsu
      have HSU := Lib.hid hsu
      have hkn : (k : Int) < (n : Int) := by omega
      have hk0 : (0 : Int) ≤ (k : Int) := by omega
      obtain ⟨tx, kd, it⟩ := o
      simp only at c0 c1 c2
      obtain ⟨bd, hbd2⟩ : ∃ b, (D.dead.any fun y => y == tx) = b := ⟨_, rfl⟩
      have HBD := Lib.hid hbd2
      have L3 := Later.cell b3
      have C0 := Later.cell c0
      have hrk : RInts wr Ak nk D.dead := RInts.of_own (hP.desk.deadN H4.out) (by omega)
      have HRK := Lib.hid hrk
      have hhi : ∀ u : Later wr, Calls Try.prog 90 #[.slice Ak nk ck, .int .i64 tx] u.1 fun e w' => e = .returned (.bool bd) ∧ Below u.1.heap.size u.1 w' := fun u => by
        have := hasInt_any Ak nk ck D.dead tx u.1 (HRK.out.later u)
        rw [HBD.out] at this
        exact this
      have HHI := Lib.hid hhi
      clear hP hXr ho hsu hbd2 hrk hhi b0 b1 b2 b3 c0 c1 c2
      go_wp2_with fail
      refine region_later (by kernel_rfl) (by kernel_rfl) ?_
      repeat (go_big_quiet_step ((go_at_call 90; exact later_call _ (HHI.out _))))
      refine wpQuiet_nil ?_
      rintro _ ⟨u, rfl⟩
      have HP2 := Lib.hid (HP.out.below u.2)
      have HX2 := Lib.hid (HXR.out.below u.2 (Nat.le_refl _))
      obtain ⟨w2, hw2⟩ : ∃ w2 : World, u.1 = w2 := ⟨_, rfl⟩
      rw [hw2] at HP2 HX2 ⊢
      clear hw2 L3 C0 HHI HRK HP HXR
      cases bd
      · have hst : runStep .wait D ⟨tx, kd, it⟩ = if (opsOf D.wait tx).isEmpty then settleD .wait (askD .wait D ⟨tx, kd, it⟩) else waitD D ⟨tx, kd, it⟩ := by
          unfold runStep
          simp only
          rw [if_neg (by rw [HBD.out]; simp)]
        have HST := Lib.hid hst
        clear hst
        obtain ⟨d0, d1, d2, d3⟩ := HP2.out.box.cells
        obtain ⟨_, _, o', hA', _, ho', c0, c1, c2⟩ := HX2.out.at_ hlt
        injection hA' with hA'; injection hA' with e1 e2 _; subst e1; subst e2
        rw [HO.out] at ho'
        injection ho' with ho'
        subst ho'
        simp only at d0 d1 d2 d3 c0 c1 c2
        obtain ⟨wd, hwd⟩ : ∃ wd : World, wd = w2.drew := ⟨_, rfl⟩
        have HPD : Hid (Pk w DV.nil w.heap.size (w.heap.size + 1) w.heap.size wd ⟨.slice Ad nd cd, .slice Aw nw cw, .slice Al nl cl, .slice Ak nk ck⟩ D) := by show Pk _ _ _ _ _ _ _ _; rw [hwd]; exact HP2.out.drew
        have HXD : Hid (ROps wd (some ⟨bs, os, none⟩) n s) := by show ROps _ _ _ _; rw [hwd]; exact HX2.out
        have HWD := Lib.hid hwd
        clear hwd
        obtain ⟨MI, hMI⟩ : ∃ M, opsOf D.wait tx = M := ⟨_, rfl⟩
        have hOP := sopsOf_any Aw nw cw D.wait tx wd (ROps.of_own (HPD.out.desk.waitN H2.out) (by omega))
        rw [hMI] at hOP
        obtain ⟨q, hq⟩ : ∃ q, MI.length = q := ⟨_, rfl⟩
        have HQ := Lib.hid hq
        have HMI := Lib.hid hMI
        have HOP := Lib.hid hOP
        clear hOP hMI hq
        try go_wp2_with fail
        refine wp_region_still_tail 7 (by kernel_rfl) (by kernel_rfl) ?_
        simp only [List.take_succ_cons, List.take_zero, List.drop_succ_cons, List.drop_zero]
        repeat (first | still_step | fail)
        refine wpStill_nil ?_
        change wpList _ _ _ _ _ w2.drew
        rw [← HWD.out]
        by_cases hq0 : q = 0
        · subst hq0
          have hemp : (opsOf D.wait tx).isEmpty = true := by rw [HMI.out, List.eq_nil_of_length_eq_zero HQ.out]; rfl
          have HEMP := Lib.hid hemp
          clear hemp d0 d1 d2 d3 c0 c1 c2
          go_wp2_with (go_at_call 91; go_loud (refine HOP.out.mono ?_; rintro e w3 ⟨MA, mc, rfl, hmc, _, hb3⟩; rw [HQ.out] at hmc ⊢; have HP3 := Lib.hid (HPD.out.below hb3); have HX3 := Lib.hid (HXD.out.below hb3 (Nat.le_refl _)); clear hb3 HPD HXD HWD))
          obtain ⟨wd, hwd⟩ : ∃ wd : World, wd = w3.drew := ⟨_, rfl⟩
          have HPD : Hid (Pk w DV.nil w.heap.size (w.heap.size + 1) w.heap.size wd ⟨.slice Ad nd cd, .slice Aw nw cw, .slice Al nl cl, .slice Ak nk ck⟩ D) := by show Pk _ _ _ _ _ _ _ _; rw [hwd]; exact HP3.out.drew
          have HXD : Hid (ROps wd (some ⟨bs, os, none⟩) n s) := by show ROps _ _ _ _; rw [hwd]; exact HX3.out
          have HWD := Lib.hid hwd
          clear hwd
          obtain ⟨d0, d1, d2, d3⟩ := HPD.out.box.cells
          obtain ⟨_, _, o', hA', _, ho', c0, c1, c2⟩ := HXD.out.at_ hlt
          injection hA' with hA'; injection hA' with e1 e2 _; subst e1; subst e2
          rw [HO.out] at ho'
          injection ho' with ho'
          subst ho'
          simp only at d0 d1 d2 d3 c0 c1 c2
          have hak := ask_wait w.heap.size _ D ⟨tx, kd, it⟩ wd HPD.out.desk (show D.locks.length ≤ 9000 by have := H3.out; omega) (show D.done.length ≤ 9000 by have := H1.out; omega) (show D.wait.length ≤ 9000 by have := H2.out; omega) (show D.dead.length ≤ 9000 by have := H4.out; omega)
          simp only [DV.val, OpV.val, Rul.str] at hak
          have HAK := Lib.hid hak
          clear hak
          try go_wp2_with fail
          refine wp_region_any (by kernel_rfl) ?_
          change wpAny _ _ _ _ _ _ _ (World.drew _)
          rw [← HWD.out]
          refine wpAny_take (i := 0) (v := ?_) rfl (by kernel_rfl) (by kernel_rfl) (by kernel_rfl) (fun _ _ _ h => h) (Or.inl ⟨by kernel_rfl, ?_⟩) ?_
          rotate_left
          · intro w; go_simp; try with_reducible rfl
          refine wpAny_take (i := 1) (v := ?_) rfl (by kernel_rfl) (by kernel_rfl) (by kernel_rfl) (fun _ _ _ h => h) (Or.inl ⟨by kernel_rfl, ?_⟩) ?_
          rotate_left
          · intro w; go_simp; try with_reducible rfl
          refine wpAny_take (i := 3) (v := ?_) rfl (by kernel_rfl) (by kernel_rfl) (by kernel_rfl) (fun _ _ _ h => h) (Or.inl ⟨by kernel_rfl, ?_⟩) ?_
          rotate_left
          · intro w; go_simp; try with_reducible rfl
          refine wpAny_take (i := 4) (v := ?_) rfl (by kernel_rfl) (by kernel_rfl) (by kernel_rfl) (fun _ _ _ h => h) (Or.inl ⟨by kernel_rfl, ?_⟩) ?_
          rotate_left
          · intro w; go_simp; try with_reducible rfl
          refine wpAny_take (i := 5) (v := ?_) rfl (by kernel_rfl) (by kernel_rfl) (by kernel_rfl) (fun _ _ _ h => h) (Or.inl ⟨by kernel_rfl, ?_⟩) ?_
          rotate_left
          · intro w; go_simp; try with_reducible rfl
          refine wpAny_ready (rs := [2, 6]) (by kernel_rfl) (by simp) ?_
          refine AllReady.cons rfl (fun K hK => ?_) (AllReady.cons rfl (fun K hK => ?_) (AllReady.nil))
          · go_simp
            try (refine hK _ _ ?_; clear hK K)
            refine wpAny_ready (rs := [6]) (by kernel_rfl) (by simp) ?_
            refine AllReady.cons rfl (fun K hK => ?_) AllReady.nil
            go_simp
            try (refine hK _ _ ?_; clear hK K)
            refine wpAny_ready (rs := [7]) (by kernel_rfl) (by simp) ?_
            refine AllReady.cons rfl (fun K hK => ?_) AllReady.nil
            go_simp
            clear d0 d1 d2 d3 c0 c1 c2
            go_wp2_with (go_at_call 93; go_loud (refine HAK.out.mono ?_; rintro e w4 ⟨V4, rfl, hD4, hS4⟩; have hbn4 := HBN.out.ask .wait ⟨tx, kd, it⟩; have hre := HRES.out (6 * k + 6) (by omega) _ _ V4 _ w4 hD4 hbn4 (Nat.lt_succ_self _); obtain ⟨Ad4, Aw4, Al4, Ak4, nd4, nw4, nl4, nk4, cd4, cw4, cl4, ck4, rfl, _⟩ := hD4.forms; simp only [DV.val, Rul.str] at hre; have HRE := Lib.hid hre; have HS4 := Lib.hid hS4; clear hre hS4 hD4 hbn4; unfold DV.val; simp only))
            try (refine hK _ _ ?_; clear hK K)
            refine wpAny_ready (rs := [8]) (by kernel_rfl) (by simp) ?_
            refine AllReady.cons rfl (fun K hK => ?_) AllReady.nil
            go_simp
            go_wp2_with (go_at_call 92; go_loud (refine HRE.out.mono ?_; rintro e w5 ⟨V5, rfl, hD5, hS5⟩; obtain ⟨Ad5, Aw5, Al5, Ak5, nd5, nw5, nl5, nk5, cd5, cw5, cl5, ck5, rfl, _⟩ := hD5.forms; have hSt := HS4.out.trans hS5; obtain ⟨hB5, _, _⟩ := HPD.out.mid hSt; have hX5 := hSt.ops HXD.out (fun ad had => by injection had with had; subst had; exact HPD.out.desk.low HBL.out); have hp5 := HPD.out.put hD5 hSt; have hx5 : ROps (putDesk w5 (w.heap.size + 1) ⟨.slice Ad5 nd5 cd5, .slice Aw5 nw5 cw5, .slice Al5 nl5 cl5, .slice Ak5 nk5 ck5⟩) (some ⟨bs, os, none⟩) n s := (run_put hX5 HBL.out _); simp only [putDesk] at hp5 hx5; obtain ⟨y0, y1, y2, y3⟩ := hB5.cells; simp only at y0 y1 y2 y3; have s0 := hB5.soft 0; have s1 := hB5.soft 1; have s2 := hB5.soft 2; have s3 := hB5.soft 3; have HF := Lib.hid (And.intro hp5 hx5); clear hSt hB5 hX5 hp5 hx5 hS5 hD5; unfold DV.val; simp only))
            try (refine hK _ _ ?_; clear hK K)
            refine wpAny_ready (rs := [9]) (by kernel_rfl) (by simp) ?_
            refine AllReady.cons rfl (fun K hK => ?_) AllReady.nil
            go_simp
            try (refine hK _ _ ?_; clear hK K)
            refine wpAny_done (by kernel_rfl) ?_ _
            try go_simp
            go_wp2_with fail
            go_roundw
            case rel => exact ⟨k + 1, _, by omega, by go_num, by rw [HSU.out, HST.out, if_pos HEMP.out]; exact HF.out.1, HF.out.2⟩
            case measure => simp [intOf]; omega
          · go_simp
            try (refine hK _ _ ?_; clear hK K)
            refine wpAny_ready (rs := [2]) (by kernel_rfl) (by simp) ?_
            refine AllReady.cons rfl (fun K hK => ?_) AllReady.nil
            go_simp
            try (refine hK _ _ ?_; clear hK K)
            refine wpAny_ready (rs := [7]) (by kernel_rfl) (by simp) ?_
            refine AllReady.cons rfl (fun K hK => ?_) AllReady.nil
            go_simp
            clear d0 d1 d2 d3 c0 c1 c2
            go_wp2_with (go_at_call 93; go_loud (refine HAK.out.mono ?_; rintro e w4 ⟨V4, rfl, hD4, hS4⟩; have hbn4 := HBN.out.ask .wait ⟨tx, kd, it⟩; have hre := HRES.out (6 * k + 6) (by omega) _ _ V4 _ w4 hD4 hbn4 (Nat.lt_succ_self _); obtain ⟨Ad4, Aw4, Al4, Ak4, nd4, nw4, nl4, nk4, cd4, cw4, cl4, ck4, rfl, _⟩ := hD4.forms; simp only [DV.val, Rul.str] at hre; have HRE := Lib.hid hre; have HS4 := Lib.hid hS4; clear hre hS4 hD4 hbn4; unfold DV.val; simp only))
            try (refine hK _ _ ?_; clear hK K)
            refine wpAny_ready (rs := [8]) (by kernel_rfl) (by simp) ?_
            refine AllReady.cons rfl (fun K hK => ?_) AllReady.nil
            go_simp
            go_wp2_with (go_at_call 92; go_loud (refine HRE.out.mono ?_; rintro e w5 ⟨V5, rfl, hD5, hS5⟩; obtain ⟨Ad5, Aw5, Al5, Ak5, nd5, nw5, nl5, nk5, cd5, cw5, cl5, ck5, rfl, _⟩ := hD5.forms; have hSt := HS4.out.trans hS5; obtain ⟨hB5, _, _⟩ := HPD.out.mid hSt; have hX5 := hSt.ops HXD.out (fun ad had => by injection had with had; subst had; exact HPD.out.desk.low HBL.out); have hp5 := HPD.out.put hD5 hSt; have hx5 : ROps (putDesk w5 (w.heap.size + 1) ⟨.slice Ad5 nd5 cd5, .slice Aw5 nw5 cw5, .slice Al5 nl5 cl5, .slice Ak5 nk5 ck5⟩) (some ⟨bs, os, none⟩) n s := (run_put hX5 HBL.out _); simp only [putDesk] at hp5 hx5; obtain ⟨y0, y1, y2, y3⟩ := hB5.cells; simp only at y0 y1 y2 y3; have s0 := hB5.soft 0; have s1 := hB5.soft 1; have s2 := hB5.soft 2; have s3 := hB5.soft 3; have HF := Lib.hid (And.intro hp5 hx5); clear hSt hB5 hX5 hp5 hx5 hS5 hD5; unfold DV.val; simp only))
            try (refine hK _ _ ?_; clear hK K)
            refine wpAny_ready (rs := [9]) (by kernel_rfl) (by simp) ?_
            refine AllReady.cons rfl (fun K hK => ?_) AllReady.nil
            go_simp
            try (refine hK _ _ ?_; clear hK K)
            refine wpAny_done (by kernel_rfl) ?_ _
            try go_simp
            go_wp2_with fail
            go_roundw
            case rel => exact ⟨k + 1, _, by omega, by go_num, by rw [HSU.out, HST.out, if_pos HEMP.out]; exact HF.out.1, HF.out.2⟩
            case measure => simp [intOf]; omega
        · have hemp : (opsOf D.wait tx).isEmpty = false := by
            rw [HMI.out]
            cases MI with
            | nil => exact absurd HQ.out.symm hq0
            | cons _ _ => rfl
          have HEMP := Lib.hid hemp
          clear hemp d0 d1 d2 d3 c0 c1 c2
          go_wp2_with (go_at_call 91; go_loud (refine HOP.out.mono ?_; rintro e w3 ⟨MA, mc, rfl, hmc, _, hb3⟩; rw [HQ.out] at hmc ⊢; have HP3 := Lib.hid (HPD.out.below hb3); have HX3 := Lib.hid (HXD.out.below hb3 (Nat.le_refl _)); clear hb3 HPD HXD HWD))
          obtain ⟨wd, hwd⟩ : ∃ wd : World, wd = w3.drew := ⟨_, rfl⟩
          have HPD : Hid (Pk w DV.nil w.heap.size (w.heap.size + 1) w.heap.size wd ⟨.slice Ad nd cd, .slice Aw nw cw, .slice Al nl cl, .slice Ak nk ck⟩ D) := by show Pk _ _ _ _ _ _ _ _; rw [hwd]; exact HP3.out.drew
          have HXD : Hid (ROps wd (some ⟨bs, os, none⟩) n s) := by show ROps _ _ _ _; rw [hwd]; exact HX3.out
          have HWD := Lib.hid hwd
          clear hwd
          try go_wp2_with fail
          obtain ⟨d0, d1, d2, d3⟩ := HPD.out.box.cells
          obtain ⟨_, _, o', hA', _, ho', c0, c1, c2⟩ := HXD.out.at_ hlt
          injection hA' with hA'; injection hA' with e1 e2 _; subst e1; subst e2
          rw [HO.out] at ho'
          injection ho' with ho'
          subst ho'
          simp only at d0 d1 d2 d3 c0 c1 c2
          have hbd3 := HPD.out.desk.base
          have hgd : w.heap.size + 1 < wd.heap.size := HPD.out.lts.1
          refine wp_region_any (by kernel_rfl) ?_
          change wpAny _ _ _ _ _ _ _ (World.drew _)
          rw [← HWD.out]
          refine wpAny_take (i := 0) (v := ?_) rfl (by kernel_rfl) (by kernel_rfl) (by kernel_rfl) (fun _ _ _ h => h) (Or.inl ⟨by kernel_rfl, ?_⟩) ?_
          rotate_left
          · intro w; go_simp; try with_reducible rfl
          refine wpAny_take (i := 2) (v := ?_) rfl (by kernel_rfl) (by kernel_rfl) (by kernel_rfl) (fun _ _ _ h => h) (Or.inl ⟨by kernel_rfl, ?_⟩) ?_
          rotate_left
          · intro w; go_simp; try with_reducible rfl
          refine wpAny_take (i := 3) (v := ?_) rfl (by kernel_rfl) (by kernel_rfl) (by kernel_rfl) (fun _ _ _ h => h) (Or.inl ⟨by kernel_rfl, ?_⟩) ?_
          rotate_left
          · intro w; go_simp; try with_reducible rfl
          refine wpAny_take (i := 4) (v := ?_) rfl (by kernel_rfl) (by kernel_rfl) (by kernel_rfl) (fun _ _ _ h => h) (Or.inl ⟨by kernel_rfl, ?_⟩) ?_
          rotate_left
          · intro w; go_simp; try with_reducible rfl
          refine wpAny_ready (rs := [1, 5]) (by kernel_rfl) (by simp) ?_
          refine AllReady.cons rfl (fun K hK => ?_) (AllReady.cons rfl (fun K hK => ?_) (AllReady.nil))
          · go_simp
            try (refine hK _ _ ?_; clear hK K)
            refine wpAny_ready (rs := [5]) (by kernel_rfl) (by simp) ?_
            refine AllReady.cons rfl (fun K hK => ?_) AllReady.nil
            go_simp
            try (refine hK _ _ ?_; clear hK K)
            refine wpAny_ready (rs := [6]) (by kernel_rfl) (by simp) ?_
            refine AllReady.cons rfl (fun K hK => ?_) AllReady.nil
            go_simp
            try (refine hK _ _ ?_; clear hK K)
            refine wpAny_ready (rs := [7]) (by kernel_rfl) (by simp) ?_
            refine AllReady.cons rfl (fun K hK => ?_) AllReady.nil
            refine step_ops (.tmp 33) (.tmp 38) (c := 1) ((HPD.out.desk.waitN (n := nw) H2.out).alloc _) (Nat.le_trans HPD.out.desk.base (by simp)) (ROps.lit1 _ ⟨_, _, _⟩ _) ?_ ?_ ?_ ?_ ?_ ?_
            · omega
            · rfl
            · rfl
            · rfl
            · rfl
            intro v8 w8 hown8 hg8 hat8; obtain ⟨A8, c8, rfl, hc8⟩ := own_form2 hown8; have hnoX : ∀ ad, (some ⟨bs, os, none⟩ : Option Addr) = some ad → (Value.slice Aw nw cw).ownBlock ≠ some ad.block := (fun ad had => by injection had with had; subst had; exact (HPD.out.desk.low HBL.out).2.1); have hX8 := (HXD.out.below ((Below.refl _ _).alloc (Nat.le_refl _) (.cells #[.int .i64 tx, .int .i64 kd, .int .i64 it] 62)) (Nat.le_refl _)).grown hg8 hnoX; obtain ⟨hB8, _, hP8⟩ := (HPD.out.alloc (.cells #[.int .i64 tx, .int .i64 kd, .int .i64 it] 62)).waitGrown hg8 hown8 hat8; obtain ⟨q0, q1, q2, q3⟩ := hB8.cells; simp only at q0 q1 q2 q3; have f1 := hB8.soft 1; have hX9 : ROps (w8.setCell ⟨w.heap.size + 1, 1, none⟩ (.slice A8 (nw + 1) c8)) (some ⟨bs, os, none⟩) n s := hX8.grown grown_set (fun ad had e => by injection had with had; subst had; injection e with e; simp at e; have := HBL.out; omega); have HF := Lib.hid (And.intro hP8 hX9); clear hB8 hP8 hX8 hX9 hnoX hg8 hown8 hat8
            try (refine hK _ _ ?_; clear hK K)
            refine wpAny_ready (rs := [8]) (by kernel_rfl) (by simp) ?_
            refine AllReady.cons rfl (fun K hK => ?_) AllReady.nil
            go_simp
            try (refine hK _ _ ?_; clear hK K)
            refine wpAny_ready (rs := [9]) (by kernel_rfl) (by simp) ?_
            refine AllReady.cons rfl (fun K hK => ?_) AllReady.nil
            go_simp
            try (refine hK _ _ ?_; clear hK K)
            refine wpAny_done (by kernel_rfl) ?_ _
            try go_simp
            go_wp2_with fail
            go_roundw
            case rel => exact ⟨k + 1, _, by omega, by go_num, by rw [HSU.out, HST.out, if_neg (by rw [HEMP.out]; simp)]; exact HF.out.1, HF.out.2⟩
            case measure => simp [intOf]; omega
          · go_simp
            try (refine hK _ _ ?_; clear hK K)
            refine wpAny_ready (rs := [1, 6]) (by kernel_rfl) (by simp) ?_
            refine AllReady.cons rfl (fun K hK => ?_) (AllReady.cons rfl (fun K hK => ?_) (AllReady.nil))
            · go_simp
              try (refine hK _ _ ?_; clear hK K)
              refine wpAny_ready (rs := [6]) (by kernel_rfl) (by simp) ?_
              refine AllReady.cons rfl (fun K hK => ?_) AllReady.nil
              go_simp
              try (refine hK _ _ ?_; clear hK K)
              refine wpAny_ready (rs := [7]) (by kernel_rfl) (by simp) ?_
              refine AllReady.cons rfl (fun K hK => ?_) AllReady.nil
              refine step_ops (.tmp 33) (.tmp 38) (c := 1) ((HPD.out.desk.waitN (n := nw) H2.out).alloc _) (Nat.le_trans HPD.out.desk.base (by simp)) (ROps.lit1 _ ⟨_, _, _⟩ _) ?_ ?_ ?_ ?_ ?_ ?_
              · omega
              · rfl
              · rfl
              · rfl
              · rfl
              intro v8 w8 hown8 hg8 hat8; obtain ⟨A8, c8, rfl, hc8⟩ := own_form2 hown8; have hnoX : ∀ ad, (some ⟨bs, os, none⟩ : Option Addr) = some ad → (Value.slice Aw nw cw).ownBlock ≠ some ad.block := (fun ad had => by injection had with had; subst had; exact (HPD.out.desk.low HBL.out).2.1); have hX8 := (HXD.out.below ((Below.refl _ _).alloc (Nat.le_refl _) (.cells #[.int .i64 tx, .int .i64 kd, .int .i64 it] 62)) (Nat.le_refl _)).grown hg8 hnoX; obtain ⟨hB8, _, hP8⟩ := (HPD.out.alloc (.cells #[.int .i64 tx, .int .i64 kd, .int .i64 it] 62)).waitGrown hg8 hown8 hat8; obtain ⟨q0, q1, q2, q3⟩ := hB8.cells; simp only at q0 q1 q2 q3; have f1 := hB8.soft 1; have hX9 : ROps (w8.setCell ⟨w.heap.size + 1, 1, none⟩ (.slice A8 (nw + 1) c8)) (some ⟨bs, os, none⟩) n s := hX8.grown grown_set (fun ad had e => by injection had with had; subst had; injection e with e; simp at e; have := HBL.out; omega); have HF := Lib.hid (And.intro hP8 hX9); clear hB8 hP8 hX8 hX9 hnoX hg8 hown8 hat8
              try (refine hK _ _ ?_; clear hK K)
              refine wpAny_ready (rs := [8]) (by kernel_rfl) (by simp) ?_
              refine AllReady.cons rfl (fun K hK => ?_) AllReady.nil
              go_simp
              try (refine hK _ _ ?_; clear hK K)
              refine wpAny_ready (rs := [9]) (by kernel_rfl) (by simp) ?_
              refine AllReady.cons rfl (fun K hK => ?_) AllReady.nil
              go_simp
              try (refine hK _ _ ?_; clear hK K)
              refine wpAny_done (by kernel_rfl) ?_ _
              try go_simp
              go_wp2_with fail
              go_roundw
              case rel => exact ⟨k + 1, _, by omega, by go_num, by rw [HSU.out, HST.out, if_neg (by rw [HEMP.out]; simp)]; exact HF.out.1, HF.out.2⟩
              case measure => simp [intOf]; omega
            · go_simp
              try (refine hK _ _ ?_; clear hK K)
              refine wpAny_ready (rs := [1]) (by kernel_rfl) (by simp) ?_
              refine AllReady.cons rfl (fun K hK => ?_) AllReady.nil
              go_simp
              try (refine hK _ _ ?_; clear hK K)
              refine wpAny_ready (rs := [7]) (by kernel_rfl) (by simp) ?_
              refine AllReady.cons rfl (fun K hK => ?_) AllReady.nil
              refine step_ops (.tmp 33) (.tmp 38) (c := 1) ((HPD.out.desk.waitN (n := nw) H2.out).alloc _) (Nat.le_trans HPD.out.desk.base (by simp)) (ROps.lit1 _ ⟨_, _, _⟩ _) ?_ ?_ ?_ ?_ ?_ ?_
              · omega
              · rfl
              · rfl
              · rfl
              · rfl
              intro v8 w8 hown8 hg8 hat8; obtain ⟨A8, c8, rfl, hc8⟩ := own_form2 hown8; have hnoX : ∀ ad, (some ⟨bs, os, none⟩ : Option Addr) = some ad → (Value.slice Aw nw cw).ownBlock ≠ some ad.block := (fun ad had => by injection had with had; subst had; exact (HPD.out.desk.low HBL.out).2.1); have hX8 := (HXD.out.below ((Below.refl _ _).alloc (Nat.le_refl _) (.cells #[.int .i64 tx, .int .i64 kd, .int .i64 it] 62)) (Nat.le_refl _)).grown hg8 hnoX; obtain ⟨hB8, _, hP8⟩ := (HPD.out.alloc (.cells #[.int .i64 tx, .int .i64 kd, .int .i64 it] 62)).waitGrown hg8 hown8 hat8; obtain ⟨q0, q1, q2, q3⟩ := hB8.cells; simp only at q0 q1 q2 q3; have f1 := hB8.soft 1; have hX9 : ROps (w8.setCell ⟨w.heap.size + 1, 1, none⟩ (.slice A8 (nw + 1) c8)) (some ⟨bs, os, none⟩) n s := hX8.grown grown_set (fun ad had e => by injection had with had; subst had; injection e with e; simp at e; have := HBL.out; omega); have HF := Lib.hid (And.intro hP8 hX9); clear hB8 hP8 hX8 hX9 hnoX hg8 hown8 hat8
              try (refine hK _ _ ?_; clear hK K)
              refine wpAny_ready (rs := [8]) (by kernel_rfl) (by simp) ?_
              refine AllReady.cons rfl (fun K hK => ?_) AllReady.nil
              go_simp
              try (refine hK _ _ ?_; clear hK K)
              refine wpAny_ready (rs := [9]) (by kernel_rfl) (by simp) ?_
              refine AllReady.cons rfl (fun K hK => ?_) AllReady.nil
              go_simp
              try (refine hK _ _ ?_; clear hK K)
              refine wpAny_done (by kernel_rfl) ?_ _
              try go_simp
              go_wp2_with fail
              go_roundw
              case rel => exact ⟨k + 1, _, by omega, by go_num, by rw [HSU.out, HST.out, if_neg (by rw [HEMP.out]; simp)]; exact HF.out.1, HF.out.2⟩
              case measure => simp [intOf]; omega
      · have hst : runStep .wait D ⟨tx, kd, it⟩ = D := by unfold runStep; simp only; rw [if_pos HBD.out]
        have HST := Lib.hid hst
        clear hst
        go_wp2_with fail
        go_roundw
        case rel => exact ⟨k + 1, _, by omega, by go_num, by rw [HSU.out, HST.out]; exact HP2.out, HX2.out⟩
        case measure => simp [intOf]; omega
    · have e : s.take k = s := List.take_of_length_le (by have := HL.out; omega)
      have hDs : runD .wait s = D := by rw [← HDD.out, e]
      obtain ⟨y0, y1, y2, y3⟩ := hP.res.cells
      unfold DV.nil at y0 y1 y2 y3
      simp only at y0 y1 y2 y3
      have s0 := hP.res.soft 0
      have s1 := hP.res.soft 1
      have s2 := hP.res.soft 2
      have s3 := hP.res.soft 3
      have hF := hP.outSame
      simp only [putDesk] at hF
      have HF := Lib.hid hF
      have HDS := Lib.hid hDs
      clear hP hXr hF e hDs
      go_wp2_with fail
      obtain ⟨d0, d1, d2, d3⟩ := HF.out.2.2.cells
      simp only at d0 d1 d2 d3
      refine bodyPost_ret (v := .agg #[.slice Ad nd cd, .slice Aw nw cw, .slice Al nl cl, .slice Ak nk ck]) (by simp [results, Try.results44, go_sem, d0, d1, d2, d3]) rfl ?_
      rw [HDS.out]
      exact ⟨⟨.slice Ad nd cd, .slice Aw nw cw, .slice Al nl cl, .slice Ak nk ck⟩, rfl, HF.out.1, HF.out.2.1.below_nil⟩

end Go.Proofs.Ytncebpmckbcabaa
