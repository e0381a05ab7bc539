/-
  Texts that the proof rests on, joined: part 33.
-/
import Derived.Test.YtncebpmckbcabaaSKp17
import Derived.Test.YtncebpmckbcabaaSKp32
namespace Go.Proofs.Ytncebpmckbcabaa
open Go.RowKit Go.BigFrame
set_option linter.unusedVariables false

theorem range_any_succ {f : Nat → Bool} {k : Nat} : (List.range (k + 1)).any f = ((List.range k).any f || f k) := by
  rw [List.range_succ, List.any_append]; simp
theorem range_any_hit {f : Nat → Bool} {k i : Nat} (hk : k < i) (h : f k = true) : (List.range i).any f = true := List.any_eq_true.2 ⟨k, List.mem_range.2 hk, h⟩

set_option maxRecDepth 100000 in
set_option maxHeartbeats 2000000 in
theorem sbreaks_rec (A : Option Addr) (n c i : Nat) (s : List OpV) (w : World) (hx : ROps w A n s) (hi : i < n) :
    Calls Try.prog 114 #[.string { data := #[114, 101, 99, 111, 118, 101, 114, 97, 98, 108, 101] }, .slice A n c, .int .i64 (i : Int)] w fun e w' => e = .returned (.tuple #[.bool (sRec s i), .bool true]) ∧ Below w.heap.size w w' := by
  have hn := hx.2.1
  have hl := hx.1
  obtain ⟨b, off, q, hA, _, hq, _, _, _⟩ := hx.at_ hi
  subst hA
  have HX := Lib.hid hx
  have HQ := Lib.hid hq
  have HR : Hid (sRec s i = (q.kind == 2 && (List.range i).any (sRecIn s q i))) := by
    show _ = _
    unfold sRec; rw [hq]
  have HSRC : Hid (∀ (W : World) (k : Nat) (o : OpV), Below w.heap.size w W → s[k]? = some o → Calls Try.prog 147 #[.slice (some ⟨b, off, none⟩) n c, .int .i64 (k : Int)] W fun e w' => e = .returned (.int .i64 (sfTo s k o.item k)) ∧ Below W.heap.size W w') := fun W k o hW ho => source_any _ n c k s o W (hx.below hW (Nat.le_refl _)) ho
  have HCM : Hid (∀ (W : World) (z : Int), Below w.heap.size w W → Calls Try.prog 148 #[.slice (some ⟨b, off, none⟩) n c, .int .i64 z, .int .i64 (i : Int)] W fun e w' => e = .returned (.bool (cmB s z i)) ∧ Below W.heap.size W w') := fun W z hW => committedAt_any _ n c s z i W (hx.below hW (Nat.le_refl _)) (by omega)
  obtain ⟨qt, qk, qi⟩ := q
  clear hx hq
  have hi0 : (0 : Int) ≤ (i : Int) := by omega
  have hin : (i : Int) < (n : Int) := by omega
  have s1 : (({ data := #[114, 101, 99, 111, 118, 101, 114, 97, 98, 108, 101] } : ByteArray) == { data := #[114, 101, 99, 111, 118, 101, 114, 97, 98, 108, 101] }) = true := by decide
  rw [HR.out]
  simp only
  go_enter Try.func114, Try.ntmps114
  go_wp2_with fail
  go_loopw [8] (fun x wr => ∃ k : Nat, k ≤ i ∧ x = .int .i64 k ∧ Below w.heap.size w wr ∧ (List.range k).any (sRecIn s ⟨qt, qk, qi⟩ i) = false) (fun x _ => i - (intOf x).toNat)
  case atStart => exact ⟨0, by omega, rfl, Below.refl _ _, rfl⟩
  case round =>
    obtain ⟨wo, rfl⟩ : ∃ z : World, z = wr := ⟨_, rfl⟩
    obtain ⟨k, hk, rfl, hb, hno⟩ := hrel
    have hxr := HX.out.below hb (Nat.le_refl _)
    obtain ⟨b', off', q', hA', _, hq', c0, c1, c2⟩ := hxr.at_ hi
    injection hA' with hA'; injection hA' with e1 e2 _; subst e1; subst e2
    rw [HQ.out] at hq'
    injection hq' with hq'
    subst hq'
    simp only at c0 c1 c2
    by_cases hk2 : qk = 2
    · subst hk2
      by_cases hlt : k < i
      · obtain ⟨b', off', o, hA', _, ho, d0, d1, d2⟩ := hxr.at_ (k := k) (by omega)
        injection hA' with hA'; injection hA' with e1 e2 _; subst e1; subst e2
        have HO := Lib.hid ho
        obtain ⟨z, hz⟩ : ∃ z, sfTo s k o.item k = z := ⟨_, rfl⟩
        obtain ⟨cm, hcm⟩ : ∃ cm, cmB s z i = cm := ⟨_, rfl⟩
        have hs : sRecIn s ⟨qt, 2, qi⟩ i k = (o.tx == qt && o.kind == 0 && (decide (0 ≤ z) && z != qt && !cm)) := by
          unfold sRecIn sDirty; rw [ho]; simp only; rw [hz, hcm]
        have hC1 : ∀ W, Below w.heap.size w W → Calls Try.prog 147 #[.slice (some ⟨b, off, none⟩) n c, .int .i64 (k : Int)] W fun e w' => e = .returned (.int .i64 z) ∧ Below W.heap.size W w' := fun W hW => by
          have := HSRC.out W k o hW ho; rw [hz] at this; exact this
        have hC2 : ∀ W, Below w.heap.size w W → Calls Try.prog 148 #[.slice (some ⟨b, off, none⟩) n c, .int .i64 z, .int .i64 (i : Int)] W fun e w' => e = .returned (.bool cm) ∧ Below W.heap.size W w' := fun W hW => by
          have := HCM.out W z hW; rw [hcm] at this; exact this
        have HC1 := Lib.hid hC1
        have HC2 := Lib.hid hC2
        have HT : Hid (sRecIn s ⟨qt, 2, qi⟩ i k = true → (List.range i).any (sRecIn s ⟨qt, 2, qi⟩ i) = true) := fun h => range_any_hit hlt h
        have HN : Hid (sRecIn s ⟨qt, 2, qi⟩ i k = false → (List.range (k + 1)).any (sRecIn s ⟨qt, 2, qi⟩ i) = false) := fun h => by rw [range_any_succ, hno, h]; rfl
        have HSV := Lib.hid hs
        have HB := Lib.hid hb
        obtain ⟨ot, ok, oi⟩ := o
        simp only at HSV d0 d1 d2
        have L0 := Later.cell c0
        have M0 := Later.cell d0
        have M1 := Later.cell d1
        have hki : (k : Int) < (i : Int) := by omega
        have hkn : (k : Int) < (n : Int) := by omega
        have hk0 : (0 : Int) ≤ (k : Int) := by omega
        clear hs hC1 hC2 hz hcm ho hno hxr hb d0 d1 d2
        by_cases h1 : ot = qt
        · subst h1
          rw [beq_self_eq_true, Bool.true_and] at HSV
          by_cases h2 : ok = 0
          · subst h2
            go_wp2_with fail
            refine region_later (by kernel_rfl) (by kernel_rfl) ?_
            repeat (go_big_quiet_step (fail))
            refine wpQuiet_nil ?_
            rintro _ ⟨u, rfl⟩
            have hbu := HB.out.trans (u.2.mono HB.out.size)
            have l0 := L0 u
            have HBU := Lib.hid hbu
            have HC := Lib.hid (HC1.out u.1 hbu)
            clear hbu
            go_wp2_with fail
            refine HC.out.mono ?_
            rintro e w2 ⟨rfl, hb2⟩
            have hbu2 := HBU.out.trans (hb2.mono HBU.out.size)
            have l2 := (hb2.cell (p := ⟨b, off + i * 3, none⟩) (block_lt_of_cell l0)).trans l0
            have HB2 := Lib.hid hbu2
            have HD := Lib.hid (HC2.out w2 hbu2)
            clear hbu2 hb2 HC l0 c0 c1 c2
            by_cases h0 : 0 ≤ z
            · by_cases hzt : z = ot
              · subst hzt
                have hf := Lib.hid (HN.out (by rw [HSV.out]; simp))
                go_wp2_with fail
                go_roundw
                case rel => exact ⟨k + 1, by omega, by go_num, HB2.out, hf.out⟩
                case measure => simp [intOf]; omega
              · have hne : (z != ot) = true := by rw [bne_iff_ne]; exact hzt
                go_wp2_with fail
                refine HD.out.mono ?_
                rintro e w3 ⟨rfl, hb3⟩
                have hbu3 := HB2.out.trans (hb3.mono HB2.out.size)
                cases cm
                · have ht := Lib.hid (HT.out (by rw [HSV.out]; simp [h0, hzt]))
                  go_wp2_with fail
                  go_ret2
                  exact ⟨by rw [ht.out]; rfl, hbu3⟩
                · have hf := Lib.hid (HN.out (by rw [HSV.out]; simp))
                  go_wp2_with fail
                  go_roundw
                  case rel => exact ⟨k + 1, by omega, by go_num, hbu3, hf.out⟩
                  case measure => simp [intOf]; omega
            · have hf := Lib.hid (HN.out (by rw [HSV.out]; simp [h0]))
              go_wp2_with fail
              go_roundw
              case rel => exact ⟨k + 1, by omega, by go_num, HB2.out, hf.out⟩
              case measure => simp [intOf]; omega
          · have h2' : (ok == 0) = false := by rw [beq_eq_false_iff_ne]; exact h2
            have hf := Lib.hid (HN.out (by rw [HSV.out, h2']; rfl))
            go_wp2_with fail
            refine region_later (by kernel_rfl) (by kernel_rfl) ?_
            repeat (go_big_quiet_step (fail))
            refine wpQuiet_nil ?_
            rintro _ ⟨u, rfl⟩
            have hbu := HB.out.trans (u.2.mono HB.out.size)
            go_wp2_with fail
            go_roundw
            case rel => exact ⟨k + 1, by omega, by go_num, hbu, hf.out⟩
            case measure => simp [intOf]; omega
        · have h1' : (ot == qt) = false := by rw [beq_eq_false_iff_ne]; exact h1
          have hf := Lib.hid (HN.out (by rw [HSV.out, h1']; rfl))
          go_wp2_with fail
          refine region_later (by kernel_rfl) (by kernel_rfl) ?_
          repeat (go_big_quiet_step (fail))
          refine wpQuiet_nil ?_
          rintro _ ⟨u, rfl⟩
          have hbu := HB.out.trans (u.2.mono HB.out.size)
          go_wp2_with fail
          go_roundw
          case rel => exact ⟨k + 1, by omega, by go_num, hbu, hf.out⟩
          case measure => simp [intOf]; omega
      · obtain rfl : k = i := by omega
        have HN := Lib.hid hno
        have hki : ¬ (k : Int) < (k : Int) := by omega
        clear hno
        go_wp2_with fail
        go_ret2
        exact ⟨by rw [HN.out]; rfl, hb⟩
    · have hk2' : (qk == 2) = false := by rw [beq_eq_false_iff_ne]; exact hk2
      by_cases hlt : k < i
      · have hki : (k : Int) < (i : Int) := by omega
        go_wp2_with fail
        go_ret2
        exact ⟨by first | rfl | (rw [hk2']; rfl) | simp [hk2], hb⟩
      · have hki : ¬ (k : Int) < (i : Int) := by omega
        go_wp2_with fail
        go_ret2
        exact ⟨by first | rfl | (rw [hk2']; rfl) | simp [hk2], hb⟩
set_option maxRecDepth 100000 in
set_option maxHeartbeats 2000000 in
theorem sbreaks_cas (A : Option Addr) (n c i : Nat) (s : List OpV) (w : World) (hx : ROps w A n s) (hi : i < n) :
    Calls Try.prog 114 #[.string { data := #[99, 97, 115, 99, 97, 100, 101, 115] }, .slice A n c, .int .i64 (i : Int)] w fun e w' => e = .returned (.tuple #[.bool (sCas s i), .bool true]) ∧ Below w.heap.size w w' := by
  have hn := hx.2.1
  have hl := hx.1
  obtain ⟨b, off, q, hA, _, hq, c0, c1, c2⟩ := hx.at_ hi
  subst hA
  have HX := Lib.hid hx
  obtain ⟨z, hz⟩ : ∃ z, sfTo s i q.item i = z := ⟨_, rfl⟩
  obtain ⟨cm, hcm⟩ : ∃ cm, cmB s z i = cm := ⟨_, rfl⟩
  have HR : Hid (sCas s i = (q.kind == 0 && (decide (0 ≤ z) && z != q.tx && !cm))) := by
    show _ = _
    unfold sCas sDirty; rw [hq]; simp only; rw [hz, hcm]
  have hC1 : Calls Try.prog 147 #[.slice (some ⟨b, off, none⟩) n c, .int .i64 (i : Int)] w fun e w' => e = .returned (.int .i64 z) ∧ Below w.heap.size w w' := by
    have := source_any _ n c i s q w hx hq; rw [hz] at this; exact this
  have hC2 : ∀ W, Below w.heap.size w W → Calls Try.prog 148 #[.slice (some ⟨b, off, none⟩) n c, .int .i64 z, .int .i64 (i : Int)] W fun e w' => e = .returned (.bool cm) ∧ Below W.heap.size W w' := fun W hW => by
    have := committedAt_any _ n c s z i W (hx.below hW (Nat.le_refl _)) (by omega); rw [hcm] at this; exact this
  have HC1 := Lib.hid hC1
  have HC2 := Lib.hid hC2
  obtain ⟨qt, qk, qi⟩ := q
  simp only at c0 c1 c2 HR
  clear hx hq hC1 hC2 hz hcm
  have hi0 : (0 : Int) ≤ (i : Int) := by omega
  have hin : (i : Int) < (n : Int) := by omega
  have s1 : (({ data := #[99, 97, 115, 99, 97, 100, 101, 115] } : ByteArray) == { data := #[114, 101, 99, 111, 118, 101, 114, 97, 98, 108, 101] }) = false := by decide
  have s2 : (({ data := #[99, 97, 115, 99, 97, 100, 101, 115] } : ByteArray) == { data := #[99, 97, 115, 99, 97, 100, 101, 115] }) = true := by decide
  rw [HR.out]
  go_enter Try.func114, Try.ntmps114
  by_cases h0k : qk = 0
  · subst h0k
    rw [beq_self_eq_true, Bool.true_and]
    go_wp2_with fail
    refine HC1.out.mono ?_
    rintro e w2 ⟨rfl, hb2⟩
    have l2 := (hb2.cell (p := ⟨b, off + i * 3, none⟩) (block_lt_of_cell c0)).trans c0
    have HD := Lib.hid (HC2.out w2 hb2)
    have HB2 := Lib.hid hb2
    clear hb2 c0 c1 c2 HC1
    by_cases h0 : 0 ≤ z
    · by_cases hzt : z = qt
      · subst hzt
        have hnn : (z != z) = false := by simp
        go_wp2_with fail
        go_ret2
        exact ⟨by simp, HB2.out⟩
      · have hne : (z != qt) = true := by rw [bne_iff_ne]; exact hzt
        go_wp2_with fail
        refine HD.out.mono ?_
        rintro e w3 ⟨rfl, hb3⟩
        have hbu3 := HB2.out.trans (hb3.mono HB2.out.size)
        go_wp2_with fail
        go_ret2
        exact ⟨by rw [decide_eq_true h0, hne]; simp, hbu3⟩
    · have hd0 : decide (0 ≤ z) = false := decide_eq_false h0
      go_wp2_with fail
      go_ret2
      exact ⟨by first | rfl | (rw [hd0]; rfl) | simp [hd0], HB2.out⟩
  · have h0k' : (qk == 0) = false := by rw [beq_eq_false_iff_ne]; exact h0k
    rw [h0k', Bool.false_and]
    go_wp2_with fail
    go_ret2
    exact ⟨rfl, Below.refl _ _⟩
end Go.Proofs.Ytncebpmckbcabaa
