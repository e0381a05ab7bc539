/-
  versionAt of the reference, and that it is the program's.
-/
import Derived.Test.YtofcpfabjfhjoaaVer0
import Derived.Test.YtofcpfabjfhjoaaPlain3
namespace Go.Proofs.Ytofcpfabjfhjoaa
open Go.RowKit Go.BigFrame
set_option linter.unusedVariables false

def pS (s : List OpV) (o : OpV) (u : Int) : Bool := decide (commitN s u < stampN s o.tx) && touchB s s.length u 1 o.item
def verS (s : List OpV) (L : List Int) (k : Nat) (o : OpV) : Int := if touchB s k o.tx 1 o.item then o.tx else vFold (pS s o) L

set_option maxRecDepth 100000 in
set_option maxHeartbeats 4000000 in
theorem versionAt_any (A LA : Option Addr) (n c lc k : Nat) (s : List OpV) (L : List Int) (o : OpV) (w : World) (hx : ROps w A n s) (hL : RInts w LA L.length L) (ho : s[k]? = some o) :
    Calls Try.prog 92 #[.slice A n c, .slice LA L.length lc, .int .i64 (k : Int)] w fun e w' => e = .returned (.int .i64 (verS s L k o)) ∧ Below w.heap.size w w' := by
  have hn := hx.2.1
  have hl := hx.1
  have hlenL := hL.2.1
  have hk : k < n := by have := (List.getElem?_eq_some_iff.1 ho).1; omega
  obtain ⟨b, off, o', rfl, hbl, ho', c0, c1, c2⟩ := hx.at_ hk
  rw [ho] at ho'
  injection ho' with ho'
  subst ho'
  obtain ⟨T, kd, X⟩ := o
  simp only at c0 c1 c2
  have hres : verS s L k ⟨T, kd, X⟩ = if touchB s k T 1 X = true then T else vFold (pS s ⟨T, kd, X⟩) L := rfl
  obtain ⟨bw, hbw⟩ : ∃ bw, touchB s k T 1 X = bw := ⟨_, rfl⟩
  rw [hbw] at hres
  have HRES := Lib.hid hres
  have hWr : ∀ (u : Later w), Calls Try.prog 132 #[.slice (some ⟨b, off, none⟩) n c, .int .i64 (k : Int), .int .i64 T, .int .i64 1, .int .i64 X] u.1 fun e w' => e = .returned (.bool bw) ∧ Below u.1.heap.size u.1 w' := fun u => by
    have := touches_any _ n c k s T 1 X u.1 (hx.later u) (by omega); rw [hbw] at this; exact this
  have HWr := Lib.hid hWr
  have HX := Lib.hid hx
  have HL := Lib.hid hL
  clear hWr hres hbw hx hL ho
  have hkn : (k : Int) < (n : Int) := by omega
  have hk0 : (0 : Int) ≤ (k : Int) := by omega
  have L0 := Later.cell c0
  have L2 := Later.cell c2
  cases bw
  · go_enter Try.func92, Try.ntmps92
    go_wp2_with fail
    refine region_later (by kernel_rfl) (by kernel_rfl) ?_
    repeat (go_big_quiet_step ((go_at_call 132; exact later_call _ (HWr.out _))))
    refine wpQuiet_nil ?_
    rintro _ ⟨u, rfl⟩
    go_wp2_with fail
    have d0 := L0 u
    have d2 := L2 u
    have hbu := u.2
    obtain ⟨ui, hui⟩ : ∃ ui : World, u.1 = ui := ⟨_, rfl⟩
    rw [hui] at d0 d2 hbu
    rw [hui]
    clear L0 L2 hui HWr c0 c1 c2
    go_loopw [7, 8] (fun v j wr => ∃ q : Nat, q ≤ L.length ∧ j = .int .i64 q ∧ v = .int .i64 (vFold (pS s ⟨T, kd, X⟩) (L.take q)) ∧ Below ui.heap.size ui wr) (fun _ j _ => L.length - (intOf j).toNat)
    case atStart => exact ⟨0, Nat.zero_le _, rfl, rfl, Below.refl _ _⟩
    case round =>
      obtain ⟨q, hq, rfl, rfl, hb⟩ := hrel
      have hbw := hbu.trans (hb.mono hbu.size)
      by_cases hlt : q < L.length
      · obtain ⟨bo, offo, U, rfl, hbo, hxx, hcx⟩ := (HL.out.below hbw (Nat.le_refl _)).at_ hlt
        have hsn := Lib.hid (vFold_snoc (p := pS s ⟨T, kd, X⟩) hxx)
        have hxs := HX.out.below hbw (Nat.le_refl _)
        have hC : ∀ v : Later wr, Calls Try.prog 122 #[.slice (some ⟨b, off, none⟩) n c, .int .i64 U] v.1 fun e w' => e = .returned (.int .i64 (commitN s U : Nat)) ∧ Below v.1.heap.size v.1 w' := fun v => commitAt_any _ n c s U v.1 (hxs.later v)
        have hF : ∀ v : Later wr, Calls Try.prog 123 #[.slice (some ⟨b, off, none⟩) n c, .int .i64 T] v.1 fun e w' => e = .returned (.int .i64 (stampN s T : Nat)) ∧ Below v.1.heap.size v.1 w' := fun v => stampOf_any _ n c s T v.1 (hxs.later v)
        obtain ⟨b3, hb3⟩ : ∃ b3, touchB s s.length U 1 X = b3 := ⟨_, rfl⟩
        have hW2 : ∀ v : Later wr, Calls Try.prog 132 #[.slice (some ⟨b, off, none⟩) n c, .int .i64 (n : Int), .int .i64 U, .int .i64 1, .int .i64 X] v.1 fun e w' => e = .returned (.bool b3) ∧ Below v.1.heap.size v.1 w' := fun v => by
          have := touches_any _ n c n s U 1 X v.1 (hxs.later v) (Nat.le_refl _); rw [hl] at hb3; rw [hb3] at this; exact this
        have HC := Lib.hid hC
        have HF := Lib.hid hF
        have HW2 := Lib.hid hW2
        obtain ⟨cU, hcU⟩ : ∃ z, commitN s U = z := ⟨_, rfl⟩
        obtain ⟨fT, hfT⟩ : ∃ z, stampN s T = z := ⟨_, rfl⟩
        have hfi : pS s ⟨T, kd, X⟩ U = (decide (cU < fT) && b3) := by
          unfold pS
          simp only
          rw [hb3, hcU, hfT]
        rw [hcU] at HC
        rw [hfT] at HF
        obtain ⟨b2, hb2⟩ : ∃ b2, decide (cU < fT) = b2 := ⟨_, rfl⟩
        rw [hb2] at hfi
        have hb2' : decide ((cU : Int) < (fT : Int)) = b2 := by rw [← hb2]; exact decide_eq_decide.2 (by omega)
        have HFI := Lib.hid hfi
        have e0 := (hb.cell (p := ⟨b, off + k * 3, none⟩) (block_lt_of_cell d0)).trans d0
        have e2 := (hb.cell (p := ⟨b, off + k * 3 + 2, none⟩) (block_lt_of_cell d2)).trans d2
        have M0 := Later.cell e0
        have M2' := Later.cell e2
        have N0 := Later.cell hcx
        have hqi : (q : Int) < (L.length : Int) := by omega
        generalize hV : vFold (pS s ⟨T, kd, X⟩) (L.take q) = V at *
        have HV := Lib.hid hV
        clear hC hF hW2 hxs hxx hcU hfT hfi hb3 hV
        cases b2
        · go_wp2_with fail
          refine region_later (by kernel_rfl) (by kernel_rfl) ?_
          repeat (go_big_quiet_step ((first | (go_at_call 122; exact later_call _ (HC.out _)) | (go_at_call 123; exact later_call _ (HF.out _)) | (go_at_call 132; exact later_call _ (HW2.out _)))))
          refine wpQuiet_nil ?_
          rintro _ ⟨u2, rfl⟩
          go_wp2_with fail
          go_roundw
          case rel => exact ⟨q + 1, by omega, by go_num, by rw [hsn.out, HFI.out]; rfl, hb.trans (u2.2.mono hb.size)⟩
          case measure => simp [intOf]; omega
        · cases b3
          · go_wp2_with fail
            refine region_later (by kernel_rfl) (by kernel_rfl) ?_
            repeat (go_big_quiet_step ((first | (go_at_call 122; exact later_call _ (HC.out _)) | (go_at_call 123; exact later_call _ (HF.out _)) | (go_at_call 132; exact later_call _ (HW2.out _)))))
            refine wpQuiet_nil ?_
            rintro _ ⟨u2, rfl⟩
            go_wp2_with fail
            go_roundw
            case rel => exact ⟨q + 1, by omega, by go_num, by rw [hsn.out, HFI.out]; rfl, hb.trans (u2.2.mono hb.size)⟩
            case measure => simp [intOf]; omega
          · go_wp2_with fail
            refine region_later (by kernel_rfl) (by kernel_rfl) ?_
            repeat (go_big_quiet_step ((first | (go_at_call 122; exact later_call _ (HC.out _)) | (go_at_call 123; exact later_call _ (HF.out _)) | (go_at_call 132; exact later_call _ (HW2.out _)))))
            refine wpQuiet_nil ?_
            rintro _ ⟨u2, rfl⟩
            go_wp2_with fail
            go_roundw
            case rel => exact ⟨q + 1, by omega, by go_num, by rw [hsn.out, HFI.out]; rfl, hb.trans (u2.2.mono hb.size)⟩
            case measure => simp [intOf]; omega
      · have hfin : Hid (vFold (pS s ⟨T, kd, X⟩) (L.take q) = verS s L k ⟨T, kd, X⟩) := by
          show _ = _
          rw [HRES.out, List.take_of_length_le (by omega)]; rfl
        go_wp2_with fail
        go_ret
        exact ⟨ret_int hfin.out, hbw⟩
  · go_enter Try.func92, Try.ntmps92
    go_wp2_with fail
    refine region_later (by kernel_rfl) (by kernel_rfl) ?_
    repeat (go_big_quiet_step ((go_at_call 132; exact later_call _ (HWr.out _))))
    refine wpQuiet_nil ?_
    rintro _ ⟨u, rfl⟩
    have d0 := L0 u
    go_wp2_with fail
    go_ret
    exact ⟨ret_int (by rw [HRES.out]; rfl), u.2⟩

theorem vFold_congr {p q : Int → Bool} {L : List Int} (h : ∀ u ∈ L, p u = q u) : vFold p L = vFold q L := by
  unfold vFold
  generalize (-1 : Int) = z
  induction L generalizing z with
  | nil => rfl
  | cons x r ih =>
    rw [List.foldl_cons, List.foldl_cons, h x (by simp)]
    exact ih (fun u hu => h u (by simp [hu])) _
theorem ver_eq {s : List OpV} (h : validS s = true) {k : Nat} {o : OpV} (ho : s[k]? = some o) : verI s (survS s) k o = verS s (survS s) k o := by
  have hom := List.mem_of_getElem? ho
  have hi := validS_item h hom
  have h1 := firstI_eq hom
  obtain ⟨t, kd, x⟩ := o
  obtain ⟨X, rfl⟩ := Int.eq_ofNat_of_zero_le hi.1
  unfold verI verS
  simp only [Int.toNat_natCast] at *
  rw [wI_take_bit (validS_items h)]
  split
  · rfl
  · refine vFold_congr fun u hu => ?_
    obtain ⟨q, hq, rfl, hk⟩ := surv_commit h hu
    have h2 := commitI_eq h hq hk
    unfold pI pS
    simp only [Int.toNat_natCast]
    rw [wI_bit (validS_items h), h1, h2]
    congr 1
    exact decide_eq_decide.2 (by omega)
end Go.Proofs.Ytofcpfabjfhjoaa
