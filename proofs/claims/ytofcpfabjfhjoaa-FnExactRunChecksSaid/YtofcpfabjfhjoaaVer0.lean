/-
  versionOf of the program: which transaction's version a read reads.
-/
import Derived.Test.YtofcpfabjfhjoaaAg0
namespace Go.Proofs.Ytofcpfabjfhjoaa
open Go.RowKit Go.BigFrame
set_option linter.unusedVariables false

def vFold (p : Int → Bool) (L : List Int) : Int := L.foldl (fun v u => if p u then u else v) (-1)
theorem vFold_snoc {p : Int → Bool} {L : List Int} {j : Nat} {u : Int} (h : L[j]? = some u) : vFold p (L.take (j + 1)) = if p u then u else vFold p (L.take j) := by
  unfold vFold
  rw [take_snoc h, List.foldl_append]; rfl
def pI (s : List OpV) (o : OpV) (u : Int) : Bool := decide (commitI s u < firstI s o.tx) && (wI s u).testBit o.item.toNat
def verI (s : List OpV) (L : List Int) (k : Nat) (o : OpV) : Int := if (wI (s.take k) o.tx).testBit o.item.toNat then o.tx else vFold (pI s o) L

set_option maxRecDepth 100000 in
set_option maxHeartbeats 4000000 in
theorem versionOf_any (A LA : Option Addr) (n c lc k : Nat) (s : List OpV) (L : List Int) (o : OpV) (w : World) (hx : ROps w A n s) (hL : RInts w LA L.length L) (ho : s[k]? = some o) (hnc : n ≤ c) (hi : itemsOk s) (hit : 0 ≤ o.item ∧ o.item ≤ 2) :
    Calls Try.prog 91 #[.slice A n c, .slice LA L.length lc, .int .i64 (k : Int)] w fun e w' => e = .returned (.int .i64 (verI s L k o)) ∧ Below w.heap.size w w' := by
  have hn := hx.2.1
  have hl := hx.1
  have hlenL := hL.2.1
  have hk : k < n := by have := (List.getElem?_eq_some_iff.1 ho).1; omega
  obtain ⟨b, off, o', rfl, hbl, ho', c0, c1, c2⟩ := hx.at_ hk
  rw [ho] at ho'
  injection ho' with ho'
  subst ho'
  obtain ⟨T, kd, it⟩ := o
  simp only at c0 c1 c2 hit
  obtain ⟨X, rfl⟩ := Int.eq_ofNat_of_zero_le hit.1
  have hres : verI s L k ⟨T, kd, X⟩ = if (wI (s.take k) T).testBit X = true then T else vFold (pI s ⟨T, kd, X⟩) L := rfl
  obtain ⟨bw, hbw⟩ : ∃ bw, (wI (s.take k) T).testBit X = bw := ⟨_, rfl⟩
  have hwm := wTo_lt (s.take k) T (itemsOk_take hi k) (s.take k).length
  have hab := and_bit (wI (s.take k) T) X (by unfold wI; omega)
  rw [hbw] at hab hres
  have HRES := Lib.hid hres
  have hWr : ∀ (W : World), Below w.heap.size w W → Calls Try.prog 118 #[.slice (some ⟨b, off, none⟩) k c, .int .i64 T] W fun e w' => e = .returned (.int .i64 (wI (s.take k) T : Nat)) ∧ Below W.heap.size W w' := fun W hW =>
    writesOf_any _ k c (s.take k) T W ((hx.take (by omega)).below hW (Nat.le_refl _)) (itemsOk_take hi k)
  have HWr := Lib.hid hWr
  have HX := Lib.hid hx
  have HL := Lib.hid hL
  have HI := Lib.hid hi
  generalize hM : wI (s.take k) T = M at *
  clear hWr hres hbw hx hL hi hM hwm ho
  have hkc : (k : Int) ≤ (c : Int) := by omega
  have hk0 : (0 : Int) ≤ (k : Int) := by omega
  have hX0 : (0 : Int) ≤ (X : Int) := by omega
  have hX2 : X ≤ 2 := by omega
  clear hit
  cases bw
  · go_enter Try.func91, Try.ntmps91
    go_wp2_with fail
    obtain ⟨W, hW⟩ : ∃ W : World, W = w.alloc (.cells #[.int .i64 T, .int .i64 kd, .int .i64 (X : Int)] 46) := ⟨_, rfl⟩
    rw [← hW]
    obtain ⟨L0, L1, L2, hbW, hWs⟩ := op_box hW
    clear hW
    refine region_later (by kernel_rfl) (by kernel_rfl) ?_
    repeat (go_big_quiet_step ((first | (go_at_call 118; exact later_call _ (HWr.out _ (hbW.trans (Later.below_ _ hbW.size)))))))
    refine wpQuiet_nil ?_
    rintro _ ⟨u, rfl⟩
    go_wp2_with fail
    have d0 := L0 u
    have d2 := L2 u
    have hbu := hbW.trans (Later.below_ u hbW.size)
    obtain ⟨ui, hui⟩ : ∃ ui : World, u.1 = ui := ⟨_, rfl⟩
    rw [hui] at d0 d2 hbu
    rw [hui]
    clear L0 L1 L2 hui HWr
    go_loopw [8, 30] (fun v j wr => ∃ q : Nat, q ≤ L.length ∧ j = .int .i64 q ∧ v = .int .i64 (vFold (pI s ⟨T, kd, X⟩) (L.take q)) ∧ Below ui.heap.size ui wr) (fun _ j _ => L.length - (intOf j).toNat)
    case atStart => exact ⟨0, Nat.zero_le _, rfl, rfl, Below.refl _ _⟩
    case round =>
      obtain ⟨q, hq, rfl, rfl, hb⟩ := hrel
      have hbw := hbu.trans (hb.mono hbu.size)
      by_cases hlt : q < L.length
      · obtain ⟨bo, offo, U, rfl, hbo, hxx, hcx⟩ := (HL.out.below hbw (Nat.le_refl _)).at_ hlt
        have hsn := Lib.hid (vFold_snoc (p := pI s ⟨T, kd, X⟩) hxx)
        have hxs := HX.out.below hbw (Nat.le_refl _)
        have hC : ∀ v : Later wr, Calls Try.prog 85 #[.slice (some ⟨b, off, none⟩) n c, .int .i64 U] v.1 fun e w' => e = .returned (.int .i64 (commitI s U)) ∧ Below v.1.heap.size v.1 w' := fun v => commitOf_any _ n c s U v.1 (hxs.later v)
        have hF : ∀ v : Later wr, Calls Try.prog 84 #[.slice (some ⟨b, off, none⟩) n c, .int .i64 T] v.1 fun e w' => e = .returned (.int .i64 (firstI s T)) ∧ Below v.1.heap.size v.1 w' := fun v => firstOf_any _ n c s T v.1 (hxs.later v)
        have hW2 : ∀ v : Later wr, Calls Try.prog 118 #[.slice (some ⟨b, off, none⟩) n c, .int .i64 U] v.1 fun e w' => e = .returned (.int .i64 (wI s U : Nat)) ∧ Below v.1.heap.size v.1 w' := fun v => writesOf_any _ n c s U v.1 (hxs.later v) HI.out
        have HC := Lib.hid hC
        have HF := Lib.hid hF
        have HW2 := Lib.hid hW2
        obtain ⟨b3, hb3⟩ : ∃ b3, (wI s U).testBit X = b3 := ⟨_, rfl⟩
        have hwm2 := wTo_lt s U HI.out s.length
        have hab2 := and_bit (wI s U) X (by unfold wI; omega)
        rw [hb3] at hab2
        obtain ⟨cU, hcU⟩ : ∃ z, commitI s U = z := ⟨_, rfl⟩
        obtain ⟨fT, hfT⟩ : ∃ z, firstI s T = z := ⟨_, rfl⟩
        have hfi : pI s ⟨T, kd, X⟩ U = (decide (cU < fT) && b3) := by
          unfold pI
          simp only [Int.toNat_natCast]
          rw [hb3, hcU, hfT]
        rw [hcU] at HC
        rw [hfT] at HF
        generalize hM2 : wI s U = M2 at *
        obtain ⟨b2, hb2⟩ : ∃ b2, decide (cU < fT) = b2 := ⟨_, rfl⟩
        rw [hb2] at hfi
        have hb2' := hb2
        have HFI := Lib.hid hfi
        have e0 := (hb.cell (p := ⟨w.heap.size, 0, none⟩) (block_lt_of_cell d0)).trans d0
        have e2 := (hb.cell (p := ⟨w.heap.size, 2, none⟩) (block_lt_of_cell d2)).trans d2
        have M0 := Later.cell e0
        have M2' := Later.cell e2
        generalize hV : vFold (pI s ⟨T, kd, X⟩) (L.take q) = V at *
        have HV := Lib.hid hV
        clear hC hF hW2 hxs hxx hcU hfT hM2 hwm2 hfi hb3 hb2 hV
        cases b2
        · go_wp2_with fail
          refine region_later (by kernel_rfl) (by kernel_rfl) ?_
          repeat (go_big_quiet_step ((first | (go_at_call 85; exact later_call _ (HC.out _)) | (go_at_call 84; exact later_call _ (HF.out _)) | (go_at_call 118; exact later_call _ (HW2.out _)))))
          refine wpQuiet_nil ?_
          rintro _ ⟨u2, rfl⟩
          go_wp2_with fail
          go_roundw
          case rel => exact ⟨q + 1, by omega, by go_num, by rw [hsn.out, HFI.out]; rfl, hb.trans (u2.2.mono hb.size)⟩
          case measure => simp [intOf]; omega
        · cases b3
          · go_wp2_with fail
            refine region_later (by kernel_rfl) (by kernel_rfl) ?_
            repeat (go_big_quiet_step ((first | (go_at_call 85; exact later_call _ (HC.out _)) | (go_at_call 84; exact later_call _ (HF.out _)) | (go_at_call 118; exact later_call _ (HW2.out _)))))
            refine wpQuiet_nil ?_
            rintro _ ⟨u2, rfl⟩
            go_wp2_with fail
            go_roundw
            case rel => exact ⟨q + 1, by omega, by go_num, by rw [hsn.out, HFI.out]; rfl, hb.trans (u2.2.mono hb.size)⟩
            case measure => simp [intOf]; omega
          · go_wp2_with fail
            refine region_later (by kernel_rfl) (by kernel_rfl) ?_
            repeat (go_big_quiet_step ((first | (go_at_call 85; exact later_call _ (HC.out _)) | (go_at_call 84; exact later_call _ (HF.out _)) | (go_at_call 118; exact later_call _ (HW2.out _)))))
            refine wpQuiet_nil ?_
            rintro _ ⟨u2, rfl⟩
            go_wp2_with fail
            go_roundw
            case rel => exact ⟨q + 1, by omega, by go_num, by rw [hsn.out, HFI.out]; rfl, hb.trans (u2.2.mono hb.size)⟩
            case measure => simp [intOf]; omega
      · have hfin : Hid (vFold (pI s ⟨T, kd, X⟩) (L.take q) = verI s L k ⟨T, kd, X⟩) := by
          show _ = _
          rw [HRES.out, List.take_of_length_le (by omega)]; rfl
        go_wp2_with fail
        go_ret
        exact ⟨ret_int hfin.out, hbw⟩
  · go_enter Try.func91, Try.ntmps91
    go_wp2_with fail
    obtain ⟨W, hW⟩ : ∃ W : World, W = w.alloc (.cells #[.int .i64 T, .int .i64 kd, .int .i64 (X : Int)] 46) := ⟨_, rfl⟩
    rw [← hW]
    obtain ⟨L0, L1, L2, hbW, hWs⟩ := op_box hW
    clear hW
    refine region_later (by kernel_rfl) (by kernel_rfl) ?_
    repeat (go_big_quiet_step ((first | (go_at_call 118; exact later_call _ (HWr.out _ (hbW.trans (Later.below_ _ hbW.size)))))))
    refine wpQuiet_nil ?_
    rintro _ ⟨u, rfl⟩
    have d0 := L0 u
    go_wp2_with fail
    go_ret
    exact ⟨ret_int (by rw [HRES.out]; rfl), hbW.trans (Later.below_ u hbW.size)⟩
end Go.Proofs.Ytofcpfabjfhjoaa
