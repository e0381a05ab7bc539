/-
  IsTwoPhase of the program.
-/
import Derived.Test.YtcakjhappchlmaaQWLkV1
import Derived.Test.YtcakjhappchlmaaQWLkT0
namespace Go.Proofs.Ytcakjhappchlmaa
open Go.RowKit Go.BigFrame
set_option linter.unusedVariables false

def freedB (L : List OpV) (t : Int) : Bool := L.any fun o => o.tx == t && o.kind == 2
def freedL (L : List OpV) : List Value := [.bool (freedB L 0), .bool (freedB L 1), .bool (freedB L 2), .bool (freedB L 3)]
theorem freedB_snoc (L : List OpV) (s : OpV) (t : Int) : freedB (L ++ [s]) t = (freedB L t || (s.tx == t && s.kind == 2)) := by
  unfold freedB
  rw [List.any_append]
  simp
theorem freed_set {L : List OpV} {s : OpV} {t : Nat} (ht : t ≤ 3) (h1 : s.tx = t) : (freedL L).set t (.bool (freedB L t || s.kind == 2)) = freedL (L ++ [s]) := by
  unfold freedL
  rcases (by omega : t = 0 ∨ t = 1 ∨ t = 2 ∨ t = 3) with rfl | rfl | rfl | rfl
  all_goals simp [freedB_snoc, h1]
theorem freed_get (L : List OpV) {t : Nat} (ht : t ≤ 3) : (freedL L)[t]? = some (.bool (freedB L t)) := by
  rcases (by omega : t = 0 ∨ t = 1 ∨ t = 2 ∨ t = 3) with rfl | rfl | rfl | rfl <;> rfl
def pastTwo (st : List OpV) (k : Nat) : Prop := ∀ (a b : Nat) (o p : OpV), a < b → b < k → st[a]? = some o → st[b]? = some p → twoR o p
theorem pastTwo_succ {st : List OpV} {k : Nat} {p : OpV} (h : pastTwo st k) (hp : st[k]? = some p) (hk : ∀ o ∈ st.take k, twoR o p) : pastTwo st (k + 1) := fun a b x y hab hb hx hy => by
  rcases Nat.lt_or_ge b k with h1 | h1
  · exact h a b x y hab h1 hx hy
  · obtain rfl : b = k := by omega
    rw [hp] at hy
    injection hy with hy
    subst hy
    exact hk x (by rw [List.mem_iff_getElem?]; exact ⟨a, by rw [List.getElem?_take_of_lt hab]; exact hx⟩)
theorem freed_no {L : List OpV} {p : OpV} (h : freedB L p.tx = false) : ∀ o ∈ L, twoR o p := fun o ho hh => by
  unfold freedB at h
  rw [List.any_eq_false] at h
  have := h o ho
  simp [hh.1, hh.2.1] at this
theorem freed_yes {st : List OpV} {k : Nat} {p : OpV} (hp : st[k]? = some p) (h : freedB (st.take k) p.tx = true) (h1 : p.kind ≤ 1) : twoPB st = false := by
  unfold freedB at h
  obtain ⟨o, ho, hh⟩ := List.any_eq_true.1 h
  obtain ⟨a, ha⟩ := List.mem_iff_getElem?.1 ho
  have hak : a < k := by
    have := (List.getElem?_eq_some_iff.1 ha).1
    rw [List.length_take] at this
    omega
  rw [List.getElem?_take_of_lt hak] at ha
  simp only [Bool.and_eq_true, beq_iff_eq] at hh
  exact twoPB_false hak ha hp fun hR => hR ⟨hh.1, hh.2, h1⟩
/-- The program's array of those who have freed. -/
def FreedAt (w : World) (g : Nat) (L : List OpV) : Prop := RowIs w g 100 (freedL L)

set_option maxRecDepth 100000 in
set_option maxHeartbeats 4000000 in
theorem IsTwoPhase_any (A : Option Addr) (n c : Nat) (st : List OpV) (w : World) (hx : ROps w A n st) :
    Calls Try.prog 39 #[.slice A n c] w fun e w' => e = .returned (.bool (validL st && twoPB st)) ∧ Below w.heap.size w w' := by
  have hn := hx.2.1
  have hl := hx.1
  have HX := Lib.hid hx
  obtain ⟨V, hV⟩ : ∃ V : World, V = w.alloc (.cells #[.bool false, .bool false, .bool false, .bool false] 100) := ⟨_, rfl⟩
  have HBV0 : Hid (Below w.heap.size w V) := by show Below _ _ _; rw [hV]; exact (Below.refl _ _).alloc (Nat.le_refl _) _
  have HF0 : Hid (FreedAt V w.heap.size []) := by show RowIs _ _ _ _; rw [hV]; unfold RowIs; exact heap_alloc_new w _
  have HV := Lib.hid hV
  have hva := ValidSteps_any A n c st V (hx.below HBV0.out (Nat.le_refl _))
  obtain ⟨bv, hbv⟩ : ∃ b, validL st = b := ⟨_, rfl⟩
  rw [hbv] at hva
  rw [hbv]
  have HVA := Lib.hid hva
  have HBV := Lib.hid hbv
  clear hx hva hbv hV
  cases bv
  · go_enter Try.func39, Try.ntmps39
    go_wp2_with (go_at_call 16; rw [← HV.out]; refine HVA.out.mono ?_; rintro e w1 ⟨rfl, hbw⟩)
    go_ret
    exact ⟨rfl, HBV0.out.trans (hbw.mono HBV0.out.size)⟩
  · have HOK : Hid (∀ s ∈ st, okStep s = true) := (validL_iff.1 HBV.out).2
    go_enter Try.func39, Try.ntmps39
    go_wp2_with (go_at_call 16; go_loud (rw [← HV.out]; refine HVA.out.mono ?_; rintro e w1 ⟨rfl, hbw⟩; have HB1 := Lib.hid (HBV0.out.trans (hbw.mono HBV0.out.size)); have HF1 : Hid (FreedAt w1 w.heap.size (st.take 0)) := RowIs.below HF0.out hbw (Nat.le_refl _)))
    go_loopw [11] (fun i wr => ∃ k : Nat, k ≤ n ∧ i = .int .i64 k ∧ Below w.heap.size w wr ∧ FreedAt wr w.heap.size (st.take k) ∧ pastTwo st k) (fun i _ => n - (intOf i).toNat)
    case atStart => exact ⟨0, by omega, rfl, HB1.out, HF1.out, fun a b o p h1 h2 => by omega⟩
    case round =>
      clear HB1 HF1 HV HBV0 HF0
      obtain ⟨k, hk, rfl, hb, hF, hpast⟩ := hrel
      by_cases hlt : k < n
      · obtain ⟨b, off, o, rfl, hbl, ho, c0, c1, c2⟩ := (HX.out.below hb (Nat.le_refl _)).at_ hlt
        obtain ⟨ht, hk', hx'⟩ := okStep_iff.1 (HOK.out o (List.mem_of_getElem? ho))
        obtain ⟨tx, kd, it⟩ := o
        simp only at c0 c1 c2 ht hk' hx'
        obtain ⟨T, rfl⟩ := Int.eq_ofNat_of_zero_le ht.1
        have hT3 : T ≤ 3 := by omega
        have hT4 : (T : Int) < 4 := by omega
        have hT0 : (0 : Int) ≤ (T : Int) := by omega
        have hs := hb.size
        have hkd : decide ((k : Int) < (n : Int)) = true := by simp; omega
        obtain ⟨W, hW⟩ : ∃ W : World, W = wr.alloc (.cells #[.int .i64 (T : Int), .int .i64 kd, .int .i64 it] 31) := ⟨_, rfl⟩
        have HBW : Hid (Below wr.heap.size wr W) := by show Below _ _ _; rw [hW]; exact (Below.refl _ _).alloc (Nat.le_refl _) _
        have HCW : Hid (∀ u, Below W.heap.size W u → u.cell? ⟨wr.heap.size, 0, none⟩ = some (.int .i64 (T : Int)) ∧ u.cell? ⟨wr.heap.size, 1, none⟩ = some (.int .i64 kd)) := fun u hu => by
          have a0 : W.cell? ⟨wr.heap.size, 0, none⟩ = some (.int .i64 (T : Int)) := by rw [hW]; exact box_at _ _ _ _ _ rfl
          have a1 : W.cell? ⟨wr.heap.size, 1, none⟩ = some (.int .i64 kd) := by rw [hW]; exact box_at _ _ _ _ _ rfl
          exact ⟨Later.cell a0 ⟨u, hu⟩, Later.cell a1 ⟨u, hu⟩⟩
        have HW := Lib.hid hW
        obtain ⟨bt, hbt⟩ : ∃ b, (kd == 0 || kd == 1) = b := ⟨_, rfl⟩
        have HT : Hid (Calls Try.prog 86 #[.agg #[.int .i64 (T : Int), .int .i64 kd, .int .i64 it]] W fun e w' => e = .returned (.bool bt) ∧ Below W.heap.size W w') := by
          have := takes_any ⟨(T : Int), kd, it⟩ W
          unfold OpV.val at this
          simp only at this
          rw [hbt] at this
          exact this
        obtain ⟨fr, hfr⟩ : ∃ b, freedB (st.take k) (T : Int) = b := ⟨_, rfl⟩
        have HBT := Lib.hid hbt
        have HFR := Lib.hid hfr
        have HFS : Hid ((freedL (st.take k)).set T (.bool (fr || kd == 2)) = freedL (st.take (k + 1))) := by show _ = _; rw [take_snoc ho, ← hfr]; exact freed_set (s := ⟨(T : Int), kd, it⟩) hT3 rfl
        have HP1 : Hid (fr = false ∨ bt = false → pastTwo st (k + 1)) := fun h => by
          refine pastTwo_succ hpast ho ?_
          rcases h with h | h
          · rw [h] at hfr; exact freed_no hfr
          · intro q hq hR
            rw [h] at hbt
            have := hR.2.2
            simp at hbt
            simp only at this
            omega
        have HP2 : Hid (fr = true → bt = true → twoPB st = false) := fun h1 h2 => by
          rw [h1] at hfr
          rw [h2] at hbt
          refine freed_yes ho hfr ?_
          simp only [Bool.or_eq_true, beq_iff_eq] at hbt
          simp only
          omega
        have HCF : Hid (∀ u, Below wr.heap.size wr u → RowIs u w.heap.size 100 (freedL (st.take k)) ∧ u.cell? ⟨w.heap.size, T, none⟩ = some (.bool fr) ∧ u.frozen? ⟨w.heap.size, T, none⟩ = false) := fun u hu => by
          have h1 : RowIs u w.heap.size 100 (freedL (st.take k)) := RowIs.below hF hu (Nat.le_refl _)
          refine ⟨h1, ?_, RowIs.frozen h1 T⟩
          have := RowIs.cell h1 (freed_get (st.take k) hT3)
          rw [hfr] at this
          exact this
        clear hW hbt hfr hF hpast ho ht hk' hx'
        by_cases hstop : fr = true ∧ bt = true
        · obtain ⟨rfl, rfl⟩ := hstop
          have HV3 := Lib.hid (HP2.out rfl rfl)
          go_wp2_with (go_at_call 86; go_loud (rw [← HW.out]; refine HT.out.mono ?_; rintro e w2 ⟨rfl, hb2⟩; obtain ⟨e0, e1⟩ := HCW.out _ hb2; have hb3 := HBW.out.trans (hb2.mono HBW.out.size); obtain ⟨hr3, hc3, hf3⟩ := HCF.out _ hb3))
          go_ret
          exact ⟨ret_bool (by rw [HV3.out]; rfl), hb.trans (hb3.mono hs)⟩
        · have HPS : Hid (pastTwo st (k + 1)) := HP1.out (by cases fr <;> cases bt <;> simp at hstop ⊢)
          clear HP1 HP2
          cases fr
          · cases bt
            · go_wp2_with (go_at_call 86; go_loud (rw [← HW.out]; refine HT.out.mono ?_; rintro e w2 ⟨rfl, hb2⟩; obtain ⟨e0, e1⟩ := HCW.out _ hb2; have hb3 := HBW.out.trans (hb2.mono HBW.out.size); obtain ⟨hr3, hc3, hf3⟩ := HCF.out _ hb3))
              obtain ⟨wd, hwd⟩ : ∃ wd : World, wd = w2.drew := ⟨_, rfl⟩
              have d0 : wd.cell? ⟨wr.heap.size, 0, none⟩ = some (.int .i64 (T : Int)) := by rw [hwd]; exact e0
              have d1 : wd.cell? ⟨wr.heap.size, 1, none⟩ = some (.int .i64 kd) := by rw [hwd]; exact e1
              obtain ⟨hrd, hcd, hfd⟩ := HCF.out wd (by rw [hwd]; exact hb3.drew)
              have HE : Hid (Below w.heap.size w (wd.setCell ⟨w.heap.size, T, none⟩ (.bool (false || kd == 2))) ∧ FreedAt (wd.setCell ⟨w.heap.size, T, none⟩ (.bool (false || kd == 2))) w.heap.size (st.take (k + 1))) := by
                refine ⟨?_, ?_⟩
                · have : Below w.heap.size w wd := by rw [hwd]; exact (hb.trans (hb3.mono hs)).drew
                  exact this.setCell (p := ⟨w.heap.size, T, none⟩) (Nat.le_refl _) _
                · unfold FreedAt; rw [← HFS.out]; exact RowIs.set hrd _ _
              have HWD := Lib.hid hwd
              clear hwd hr3 hf3 hrd hb2 hb3
              refine wp_region_still_tail 12 (by kernel_rfl) (by kernel_rfl) ?_
              simp only [List.take_succ_cons, List.take_zero, List.drop_succ_cons, List.drop_zero]
              repeat (first | still_step | fail)
              refine wpStill_nil ?_
              change wpList _ _ _ _ _ w2.drew
              rw [← HWD.out]
              go_wp2_with fail
              go_roundw
              case rel => exact ⟨k + 1, by omega, by go_num, HE.out.1, HE.out.2, HPS.out⟩
              case measure => simp [intOf]; omega
            · go_wp2_with (go_at_call 86; go_loud (rw [← HW.out]; refine HT.out.mono ?_; rintro e w2 ⟨rfl, hb2⟩; obtain ⟨e0, e1⟩ := HCW.out _ hb2; have hb3 := HBW.out.trans (hb2.mono HBW.out.size); obtain ⟨hr3, hc3, hf3⟩ := HCF.out _ hb3))
              obtain ⟨wd, hwd⟩ : ∃ wd : World, wd = w2.drew := ⟨_, rfl⟩
              have d0 : wd.cell? ⟨wr.heap.size, 0, none⟩ = some (.int .i64 (T : Int)) := by rw [hwd]; exact e0
              have d1 : wd.cell? ⟨wr.heap.size, 1, none⟩ = some (.int .i64 kd) := by rw [hwd]; exact e1
              obtain ⟨hrd, hcd, hfd⟩ := HCF.out wd (by rw [hwd]; exact hb3.drew)
              have HE : Hid (Below w.heap.size w (wd.setCell ⟨w.heap.size, T, none⟩ (.bool (false || kd == 2))) ∧ FreedAt (wd.setCell ⟨w.heap.size, T, none⟩ (.bool (false || kd == 2))) w.heap.size (st.take (k + 1))) := by
                refine ⟨?_, ?_⟩
                · have : Below w.heap.size w wd := by rw [hwd]; exact (hb.trans (hb3.mono hs)).drew
                  exact this.setCell (p := ⟨w.heap.size, T, none⟩) (Nat.le_refl _) _
                · unfold FreedAt; rw [← HFS.out]; exact RowIs.set hrd _ _
              have HWD := Lib.hid hwd
              clear hwd hr3 hf3 hrd hb2 hb3
              refine wp_region_still_tail 12 (by kernel_rfl) (by kernel_rfl) ?_
              simp only [List.take_succ_cons, List.take_zero, List.drop_succ_cons, List.drop_zero]
              repeat (first | still_step | fail)
              refine wpStill_nil ?_
              change wpList _ _ _ _ _ w2.drew
              rw [← HWD.out]
              go_wp2_with fail
              go_roundw
              case rel => exact ⟨k + 1, by omega, by go_num, HE.out.1, HE.out.2, HPS.out⟩
              case measure => simp [intOf]; omega
          · cases bt
            · go_wp2_with (go_at_call 86; go_loud (rw [← HW.out]; refine HT.out.mono ?_; rintro e w2 ⟨rfl, hb2⟩; obtain ⟨e0, e1⟩ := HCW.out _ hb2; have hb3 := HBW.out.trans (hb2.mono HBW.out.size); obtain ⟨hr3, hc3, hf3⟩ := HCF.out _ hb3))
              obtain ⟨wd, hwd⟩ : ∃ wd : World, wd = w2.drew := ⟨_, rfl⟩
              have d0 : wd.cell? ⟨wr.heap.size, 0, none⟩ = some (.int .i64 (T : Int)) := by rw [hwd]; exact e0
              have d1 : wd.cell? ⟨wr.heap.size, 1, none⟩ = some (.int .i64 kd) := by rw [hwd]; exact e1
              obtain ⟨hrd, hcd, hfd⟩ := HCF.out wd (by rw [hwd]; exact hb3.drew)
              have HE : Hid (Below w.heap.size w (wd.setCell ⟨w.heap.size, T, none⟩ (.bool (true || kd == 2))) ∧ FreedAt (wd.setCell ⟨w.heap.size, T, none⟩ (.bool (true || kd == 2))) w.heap.size (st.take (k + 1))) := by
                refine ⟨?_, ?_⟩
                · have : Below w.heap.size w wd := by rw [hwd]; exact (hb.trans (hb3.mono hs)).drew
                  exact this.setCell (p := ⟨w.heap.size, T, none⟩) (Nat.le_refl _) _
                · unfold FreedAt; rw [← HFS.out]; exact RowIs.set hrd _ _
              have HWD := Lib.hid hwd
              clear hwd hr3 hf3 hrd hb2 hb3
              refine wp_region_still_tail 12 (by kernel_rfl) (by kernel_rfl) ?_
              simp only [List.take_succ_cons, List.take_zero, List.drop_succ_cons, List.drop_zero]
              repeat (first | still_step | fail)
              refine wpStill_nil ?_
              change wpList _ _ _ _ _ w2.drew
              rw [← HWD.out]
              go_wp2_with fail
              go_roundw
              case rel => exact ⟨k + 1, by omega, by go_num, HE.out.1, HE.out.2, HPS.out⟩
              case measure => simp [intOf]; omega
            · exact absurd ⟨rfl, rfl⟩ hstop
      · have hkd : decide ((k : Int) < (n : Int)) = false := by simp; omega
        have HV2 : Hid (twoPB st = true) := twoPB_true fun a b o p hab h1 h2 => hpast a b o p hab (by have := (List.getElem?_eq_some_iff.1 h2).1; omega) h1 h2
        clear hpast hF
        go_wp2_with fail
        go_ret
        exact ⟨ret_bool (by rw [HV2.out]; rfl), hb⟩
end Go.Proofs.Ytcakjhappchlmaa
