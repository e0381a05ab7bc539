/-
  Texts that the proof rests on, joined: part 34.
-/
import Derived.Test.YtncebpmckbcabaaSKp18
import Derived.Test.YtncebpmckbcabaaSKp33
namespace Go.Proofs.Ytncebpmckbcabaa
open Go.RowKit Go.BigFrame
set_option linter.unusedVariables false


set_option maxRecDepth 100000 in
set_option maxHeartbeats 4000000 in
theorem sbreaks_str (A : Option Addr) (n c i : Nat) (s : List OpV) (w : World) (hx : ROps w A n s) (hi : i < n) :
    Calls Try.prog 114 #[.string { data := #[115, 116, 114, 105, 99, 116] }, .slice A n c, .int .i64 (i : Int)] w fun e w' => e = .returned (.tuple #[.bool (sOpn false s i), .bool true]) ∧ Below w.heap.size w w' := by
  have hn := hx.2.1
  have hl := hx.1
  obtain ⟨b, off, q, hA, _, hq, _, _, _⟩ := hx.at_ hi
  subst hA
  have HX := Lib.hid hx
  have HQ := Lib.hid hq
  have HR : Hid (sOpn false s i = (List.range i).any (sOpnIn false s q i)) := by
    show _ = _
    unfold sOpn; rw [hq]
  obtain ⟨qt, qk, qi⟩ := q
  clear hx hq
  have hi0 : (0 : Int) ≤ (i : Int) := by omega
  have hin : (i : Int) < (n : Int) := by omega
  have s0 : (({ data := #[115, 116, 114, 105, 99, 116] } : ByteArray) == { data := #[114, 101, 99, 111, 118, 101, 114, 97, 98, 108, 101] }) = false := by decide
  have s1 : (({ data := #[115, 116, 114, 105, 99, 116] } : ByteArray) == { data := #[99, 97, 115, 99, 97, 100, 101, 115] }) = false := by decide
  have s2 : (({ data := #[115, 116, 114, 105, 99, 116] } : ByteArray) == { data := #[115, 116, 114, 105, 99, 116] }) = true := by decide
  have s3 : (({ data := #[115, 116, 114, 105, 99, 116] } : ByteArray) == { data := #[114, 105, 103, 111, 114, 111, 117, 115] }) = false := by decide
  rw [HR.out]
  go_enter Try.func114, Try.ntmps114
  go_wp2_with fail
  go_loopw [11] (fun x wr => ∃ k : Nat, k ≤ i ∧ x = .int .i64 k ∧ Below w.heap.size w wr ∧ (List.range k).any (sOpnIn false s ⟨qt, qk, qi⟩ i) = false) (fun x _ => i - (intOf x).toNat)
  case atStart => exact ⟨0, by omega, rfl, Below.refl _ _, rfl⟩
  case round =>
    obtain ⟨wo, rfl⟩ : ∃ z : World, z = wr := ⟨_, rfl⟩
    obtain ⟨k, hk, rfl, hb, hno⟩ := hrel
    by_cases hlt : k < i
    · have hxr := HX.out.below hb (Nat.le_refl _)
      obtain ⟨b', off', q', hA', _, hq', c0, c1, c2⟩ := hxr.at_ hi
      injection hA' with hA'; injection hA' with e1 e2 _; subst e1; subst e2
      rw [HQ.out] at hq'
      injection hq' with hq'
      subst hq'
      simp only at c0 c1 c2
      obtain ⟨b', off', o, hA', _, ho, d0, d1, d2⟩ := hxr.at_ (k := k) (by omega)
      injection hA' with hA'; injection hA' with e1 e2 _; subst e1; subst e2
      obtain ⟨cb, hcb⟩ : ∃ cb, sconfB o ⟨qt, qk, qi⟩ = cb := ⟨_, rfl⟩
      obtain ⟨ab, hab⟩ : ∃ ab, actB s o.tx i = ab := ⟨_, rfl⟩
      have hs : sOpnIn false s ⟨qt, qk, qi⟩ i k = (cb && ab && (false || o.kind == 1)) := by
        unfold sOpnIn; rw [ho]; simp only; rw [hcb, hab]
      have hC1 : ∀ z : Later wo, Calls Try.prog 149 #[.agg #[.int .i64 o.tx, .int .i64 o.kind, .int .i64 o.item], .agg #[.int .i64 qt, .int .i64 qk, .int .i64 qi]] z.1 fun e w' => e = .returned (.bool cb) ∧ Below z.1.heap.size z.1 w' := fun z => by
        have := sconflict_any o ⟨qt, qk, qi⟩ z.1; rw [hcb] at this; exact this
      have hC2 : ∀ z : Later wo, Calls Try.prog 150 #[.slice (some ⟨b, off, none⟩) n c, .int .i64 o.tx, .int .i64 (i : Int)] z.1 fun e w' => e = .returned (.bool ab) ∧ Below z.1.heap.size z.1 w' := fun z => by
        have := activeAt_any _ n c s o.tx i z.1 (hxr.later z) (by omega); rw [hab] at this; exact this
      have HT : Hid (sOpnIn false s ⟨qt, qk, qi⟩ i k = true → (List.range i).any (sOpnIn false s ⟨qt, qk, qi⟩ i) = true) := fun h => range_any_hit hlt h
      have HN : Hid (sOpnIn false s ⟨qt, qk, qi⟩ i k = false → (List.range (k + 1)).any (sOpnIn false s ⟨qt, qk, qi⟩ i) = false) := fun h => by rw [range_any_succ, hno, h]; rfl
      have HSV := Lib.hid hs
      have HB := Lib.hid hb
      obtain ⟨ot, ok, oi⟩ := o
      simp only at HSV d0 d1 d2 hC1 hC2
      have H1 := Lib.hid hC1
      have H2 := Lib.hid hC2
      have L0 := Later.cell c0
      have L1 := Later.cell c1
      have L2 := Later.cell c2
      have M0 := Later.cell d0
      have M1 := Later.cell d1
      have M2 := Later.cell d2
      have hki : (k : Int) < (i : Int) := by omega
      have hkn : (k : Int) < (n : Int) := by omega
      have hk0 : (0 : Int) ≤ (k : Int) := by omega
      clear hs hC1 hC2 hcb hab ho hno hxr hb c0 c1 c2 d0 d1 d2
      cases cb
      · have hf := Lib.hid (HN.out (by rw [HSV.out]; rfl))
        go_wp2_with fail
        refine region_later (by kernel_rfl) (by kernel_rfl) ?_
        repeat (go_big_quiet_step (first | (go_at_call 149; exact later_call _ (H1.out _)) | (go_at_call 150; exact later_call _ (H2.out _))))
        refine wpQuiet_nil ?_
        rintro _ ⟨z, rfl⟩
        have hbz := HB.out.trans (z.2.mono HB.out.size)
        go_wp2_with fail
        go_roundw
        case rel => exact ⟨k + 1, by omega, by go_num, hbz, hf.out⟩
        case measure => simp [intOf]; omega
      · cases ab
        · have hf := Lib.hid (HN.out (by rw [HSV.out]; rfl))
          go_wp2_with fail
          refine region_later (by kernel_rfl) (by kernel_rfl) ?_
          repeat (go_big_quiet_step (first | (go_at_call 149; exact later_call _ (H1.out _)) | (go_at_call 150; exact later_call _ (H2.out _))))
          refine wpQuiet_nil ?_
          rintro _ ⟨z, rfl⟩
          have hbz := HB.out.trans (z.2.mono HB.out.size)
          go_wp2_with fail
          go_roundw
          case rel => exact ⟨k + 1, by omega, by go_num, hbz, hf.out⟩
          case measure => simp [intOf]; omega
        · by_cases h1 : ok = 1
          · subst h1
            have ht := Lib.hid (HT.out (by rw [HSV.out]; rfl))
            go_wp2_with fail
            refine region_later (by kernel_rfl) (by kernel_rfl) ?_
            repeat (go_big_quiet_step (first | (go_at_call 149; exact later_call _ (H1.out _)) | (go_at_call 150; exact later_call _ (H2.out _))))
            refine wpQuiet_nil ?_
            rintro _ ⟨z, rfl⟩
            have hbz := HB.out.trans (z.2.mono HB.out.size)
            go_wp2_with fail
            go_ret2
            exact ⟨by rw [ht.out]; rfl, hbz⟩
          · have h1' : (ok == 1) = false := by rw [beq_eq_false_iff_ne]; exact h1
            have hf := Lib.hid (HN.out (by rw [HSV.out]; rw [h1']; rfl))
            go_wp2_with fail
            refine region_later (by kernel_rfl) (by kernel_rfl) ?_
            repeat (go_big_quiet_step (first | (go_at_call 149; exact later_call _ (H1.out _)) | (go_at_call 150; exact later_call _ (H2.out _))))
            refine wpQuiet_nil ?_
            rintro _ ⟨z, rfl⟩
            have hbz := HB.out.trans (z.2.mono HB.out.size)
            go_wp2_with fail
            go_roundw
            case rel => exact ⟨k + 1, by omega, by go_num, hbz, hf.out⟩
            case measure => simp [intOf]; omega
    · obtain rfl : k = i := by omega
      have HN := Lib.hid hno
      have hki : ¬ (k : Int) < (k : Int) := by omega
      clear hno
      go_wp2_with fail
      go_ret2
      exact ⟨by rw [HN.out]; rfl, hb⟩


set_option maxRecDepth 100000 in
set_option maxHeartbeats 4000000 in
theorem sbreaks_rig (A : Option Addr) (n c i : Nat) (s : List OpV) (w : World) (hx : ROps w A n s) (hi : i < n) :
    Calls Try.prog 114 #[.string { data := #[114, 105, 103, 111, 114, 111, 117, 115] }, .slice A n c, .int .i64 (i : Int)] w fun e w' => e = .returned (.tuple #[.bool (sOpn true s i), .bool true]) ∧ Below w.heap.size w w' := by
  have hn := hx.2.1
  have hl := hx.1
  obtain ⟨b, off, q, hA, _, hq, _, _, _⟩ := hx.at_ hi
  subst hA
  have HX := Lib.hid hx
  have HQ := Lib.hid hq
  have HR : Hid (sOpn true s i = (List.range i).any (sOpnIn true s q i)) := by
    show _ = _
    unfold sOpn; rw [hq]
  obtain ⟨qt, qk, qi⟩ := q
  clear hx hq
  have hi0 : (0 : Int) ≤ (i : Int) := by omega
  have hin : (i : Int) < (n : Int) := by omega
  have s0 : (({ data := #[114, 105, 103, 111, 114, 111, 117, 115] } : ByteArray) == { data := #[114, 101, 99, 111, 118, 101, 114, 97, 98, 108, 101] }) = false := by decide
  have s1 : (({ data := #[114, 105, 103, 111, 114, 111, 117, 115] } : ByteArray) == { data := #[99, 97, 115, 99, 97, 100, 101, 115] }) = false := by decide
  have s2 : (({ data := #[114, 105, 103, 111, 114, 111, 117, 115] } : ByteArray) == { data := #[115, 116, 114, 105, 99, 116] }) = false := by decide
  have s3 : (({ data := #[114, 105, 103, 111, 114, 111, 117, 115] } : ByteArray) == { data := #[114, 105, 103, 111, 114, 111, 117, 115] }) = true := by decide
  rw [HR.out]
  go_enter Try.func114, Try.ntmps114
  go_wp2_with fail
  go_loopw [11] (fun x wr => ∃ k : Nat, k ≤ i ∧ x = .int .i64 k ∧ Below w.heap.size w wr ∧ (List.range k).any (sOpnIn true s ⟨qt, qk, qi⟩ i) = false) (fun x _ => i - (intOf x).toNat)
  case atStart => exact ⟨0, by omega, rfl, Below.refl _ _, rfl⟩
  case round =>
    obtain ⟨wo, rfl⟩ : ∃ z : World, z = wr := ⟨_, rfl⟩
    obtain ⟨k, hk, rfl, hb, hno⟩ := hrel
    by_cases hlt : k < i
    · have hxr := HX.out.below hb (Nat.le_refl _)
      obtain ⟨b', off', q', hA', _, hq', c0, c1, c2⟩ := hxr.at_ hi
      injection hA' with hA'; injection hA' with e1 e2 _; subst e1; subst e2
      rw [HQ.out] at hq'
      injection hq' with hq'
      subst hq'
      simp only at c0 c1 c2
      obtain ⟨b', off', o, hA', _, ho, d0, d1, d2⟩ := hxr.at_ (k := k) (by omega)
      injection hA' with hA'; injection hA' with e1 e2 _; subst e1; subst e2
      obtain ⟨cb, hcb⟩ : ∃ cb, sconfB o ⟨qt, qk, qi⟩ = cb := ⟨_, rfl⟩
      obtain ⟨ab, hab⟩ : ∃ ab, actB s o.tx i = ab := ⟨_, rfl⟩
      have hs : sOpnIn true s ⟨qt, qk, qi⟩ i k = (cb && ab && (true || o.kind == 1)) := by
        unfold sOpnIn; rw [ho]; simp only; rw [hcb, hab]
      have hC1 : ∀ z : Later wo, Calls Try.prog 149 #[.agg #[.int .i64 o.tx, .int .i64 o.kind, .int .i64 o.item], .agg #[.int .i64 qt, .int .i64 qk, .int .i64 qi]] z.1 fun e w' => e = .returned (.bool cb) ∧ Below z.1.heap.size z.1 w' := fun z => by
        have := sconflict_any o ⟨qt, qk, qi⟩ z.1; rw [hcb] at this; exact this
      have hC2 : ∀ z : Later wo, Calls Try.prog 150 #[.slice (some ⟨b, off, none⟩) n c, .int .i64 o.tx, .int .i64 (i : Int)] z.1 fun e w' => e = .returned (.bool ab) ∧ Below z.1.heap.size z.1 w' := fun z => by
        have := activeAt_any _ n c s o.tx i z.1 (hxr.later z) (by omega); rw [hab] at this; exact this
      have HT : Hid (sOpnIn true s ⟨qt, qk, qi⟩ i k = true → (List.range i).any (sOpnIn true s ⟨qt, qk, qi⟩ i) = true) := fun h => range_any_hit hlt h
      have HN : Hid (sOpnIn true s ⟨qt, qk, qi⟩ i k = false → (List.range (k + 1)).any (sOpnIn true s ⟨qt, qk, qi⟩ i) = false) := fun h => by rw [range_any_succ, hno, h]; rfl
      have HSV := Lib.hid hs
      have HB := Lib.hid hb
      obtain ⟨ot, ok, oi⟩ := o
      simp only at HSV d0 d1 d2 hC1 hC2
      have H1 := Lib.hid hC1
      have H2 := Lib.hid hC2
      have L0 := Later.cell c0
      have L1 := Later.cell c1
      have L2 := Later.cell c2
      have M0 := Later.cell d0
      have M1 := Later.cell d1
      have M2 := Later.cell d2
      have hki : (k : Int) < (i : Int) := by omega
      have hkn : (k : Int) < (n : Int) := by omega
      have hk0 : (0 : Int) ≤ (k : Int) := by omega
      clear hs hC1 hC2 hcb hab ho hno hxr hb c0 c1 c2 d0 d1 d2
      cases cb
      · have hf := Lib.hid (HN.out (by rw [HSV.out]; rfl))
        go_wp2_with fail
        refine region_later (by kernel_rfl) (by kernel_rfl) ?_
        repeat (go_big_quiet_step (first | (go_at_call 149; exact later_call _ (H1.out _)) | (go_at_call 150; exact later_call _ (H2.out _))))
        refine wpQuiet_nil ?_
        rintro _ ⟨z, rfl⟩
        have hbz := HB.out.trans (z.2.mono HB.out.size)
        go_wp2_with fail
        go_roundw
        case rel => exact ⟨k + 1, by omega, by go_num, hbz, hf.out⟩
        case measure => simp [intOf]; omega
      · cases ab
        · have hf := Lib.hid (HN.out (by rw [HSV.out]; rfl))
          go_wp2_with fail
          refine region_later (by kernel_rfl) (by kernel_rfl) ?_
          repeat (go_big_quiet_step (first | (go_at_call 149; exact later_call _ (H1.out _)) | (go_at_call 150; exact later_call _ (H2.out _))))
          refine wpQuiet_nil ?_
          rintro _ ⟨z, rfl⟩
          have hbz := HB.out.trans (z.2.mono HB.out.size)
          go_wp2_with fail
          go_roundw
          case rel => exact ⟨k + 1, by omega, by go_num, hbz, hf.out⟩
          case measure => simp [intOf]; omega
        · have ht := Lib.hid (HT.out (by rw [HSV.out]; rfl))
          go_wp2_with fail
          refine region_later (by kernel_rfl) (by kernel_rfl) ?_
          repeat (go_big_quiet_step (first | (go_at_call 149; exact later_call _ (H1.out _)) | (go_at_call 150; exact later_call _ (H2.out _))))
          refine wpQuiet_nil ?_
          rintro _ ⟨z, rfl⟩
          have hbz := HB.out.trans (z.2.mono HB.out.size)
          go_wp2_with fail
          go_ret2
          exact ⟨by rw [ht.out]; rfl, hbz⟩
    · obtain rfl : k = i := by omega
      have HN := Lib.hid hno
      have hki : ¬ (k : Int) < (k : Int) := by omega
      clear hno
      go_wp2_with fail
      go_ret2
      exact ⟨by rw [HN.out]; rfl, hb⟩

set_option maxRecDepth 100000 in
set_option maxHeartbeats 4000000 in
theorem sbreaks_com (A : Option Addr) (n c i : Nat) (s : List OpV) (w : World) (hx : ROps w A n s) (hi : i < n) :
    Calls Try.prog 114 #[.string { data := #[99, 111, 109, 109, 105, 116, 115] }, .slice A n c, .int .i64 (i : Int)] w fun e w' => e = .returned (.tuple #[.bool (sCom s i), .bool true]) ∧ Below w.heap.size w w' := by
  have hn := hx.2.1
  have hl := hx.1
  obtain ⟨b, off, q, hA, _, hq, _, _, _⟩ := hx.at_ hi
  subst hA
  have HX := Lib.hid hx
  have HQ := Lib.hid hq
  have HR : Hid (sCom s i = (q.kind == 2 && (List.range i).any (sComIn s q i))) := by
    show _ = _
    unfold sCom; rw [hq]
  obtain ⟨qt, qk, qi⟩ := q
  clear hx hq
  have hi0 : (0 : Int) ≤ (i : Int) := by omega
  have hin : (i : Int) < (n : Int) := by omega
  have s0 : (({ data := #[99, 111, 109, 109, 105, 116, 115] } : ByteArray) == { data := #[114, 101, 99, 111, 118, 101, 114, 97, 98, 108, 101] }) = false := by decide
  have s1 : (({ data := #[99, 111, 109, 109, 105, 116, 115] } : ByteArray) == { data := #[99, 97, 115, 99, 97, 100, 101, 115] }) = false := by decide
  have s2 : (({ data := #[99, 111, 109, 109, 105, 116, 115] } : ByteArray) == { data := #[115, 116, 114, 105, 99, 116] }) = false := by decide
  have s3 : (({ data := #[99, 111, 109, 109, 105, 116, 115] } : ByteArray) == { data := #[114, 105, 103, 111, 114, 111, 117, 115] }) = false := by decide
  have s4 : (({ data := #[99, 111, 109, 109, 105, 116, 115] } : ByteArray) == { data := #[99, 111, 109, 109, 105, 116, 115] }) = true := by decide
  rw [HR.out]
  simp only
  go_enter Try.func114, Try.ntmps114
  go_wp2_with fail
  go_loopw [12] (fun x wr => ∃ k : Nat, k ≤ i ∧ x = .int .i64 k ∧ Below w.heap.size w wr ∧ (List.range k).any (sComIn s ⟨qt, qk, qi⟩ i) = false) (fun x _ => i - (intOf x).toNat)
  case atStart => exact ⟨0, by omega, rfl, Below.refl _ _, rfl⟩
  case round =>
    obtain ⟨wo, rfl⟩ : ∃ z : World, z = wr := ⟨_, rfl⟩
    obtain ⟨k, hk, rfl, hb, hno⟩ := hrel
    have hxr := HX.out.below hb (Nat.le_refl _)
    obtain ⟨b', off', q', hA', _, hq', c0, c1, c2⟩ := hxr.at_ hi
    injection hA' with hA'; injection hA' with e1 e2 _; subst e1; subst e2
    rw [HQ.out] at hq'
    injection hq' with hq'
    subst hq'
    simp only at c0 c1 c2
    by_cases hk2 : qk = 2
    · subst hk2
      by_cases hlt : k < i
      · obtain ⟨b', off', o, hA', _, ho, _, _, _⟩ := hxr.at_ (k := k) (by omega)
        injection hA' with hA'; injection hA' with e1 e2 _; subst e1; subst e2
        have HO := Lib.hid ho
        have hs : sComIn s ⟨qt, 2, qi⟩ i k = (List.range (s.length - (k + 1))).any fun d => sComJ s ⟨qt, 2, qi⟩ o i (k + 1 + d) := by
          unfold sComIn; rw [ho]
        have HSV := Lib.hid hs
        have HT : Hid (sComIn s ⟨qt, 2, qi⟩ i k = true → (List.range i).any (sComIn s ⟨qt, 2, qi⟩ i) = true) := fun h => range_any_hit hlt h
        have HN : Hid (sComIn s ⟨qt, 2, qi⟩ i k = false → (List.range (k + 1)).any (sComIn s ⟨qt, 2, qi⟩ i) = false) := fun h => by rw [range_any_succ, hno, h]; rfl
        have hki : (k : Int) < (i : Int) := by omega
        have hdk : decide ((k : Int) < (i : Int)) = true := decide_eq_true hki
        clear hs hno ho
        go_wp2_with fail
        clear c0 c1 c2 hxr
        go_loopw [13] (fun x wr => ∃ d : Nat, k + 1 + d ≤ n ∧ x = .int .i64 ((k + 1 + d : Nat) : Int) ∧ Below w.heap.size w wr ∧ ((List.range d).any fun d => sComJ s ⟨qt, 2, qi⟩ o i (k + 1 + d)) = false) (fun x _ => n - (intOf x).toNat)
        case atStart => exact ⟨0, by omega, by go_num, hb, rfl⟩
        case round =>
          obtain ⟨wi, rfl⟩ : ∃ z : World, z = wr := ⟨_, rfl⟩
          obtain ⟨d, hd, rfl, hbi, hno⟩ := hrel
          by_cases hltd : k + 1 + d < n
          · have hxi := HX.out.below hbi (Nat.le_refl _)
            obtain ⟨b', off', q', hA', _, hq', c0, c1, c2⟩ := hxi.at_ hi
            injection hA' with hA'; injection hA' with e1 e2 _; subst e1; subst e2
            rw [HQ.out] at hq'
            injection hq' with hq'
            subst hq'
            obtain ⟨b', off', o', hA', _, ho', d0, d1, d2⟩ := hxi.at_ (k := k) (by omega)
            injection hA' with hA'; injection hA' with e1 e2 _; subst e1; subst e2
            rw [HO.out] at ho'
            injection ho' with ho'
            subst ho'
            obtain ⟨b', off', p, hA', _, hp, f0, f1, f2⟩ := hxi.at_ hltd
            injection hA' with hA'; injection hA' with e1 e2 _; subst e1; subst e2
            obtain ⟨cb, hcb⟩ : ∃ cb, sconfB o p = cb := ⟨_, rfl⟩
            obtain ⟨cm, hcm⟩ : ∃ cm, cmB s p.tx i = cm := ⟨_, rfl⟩
            have hj : sComJ s ⟨qt, 2, qi⟩ o i (k + 1 + d) = (o.tx == qt && cb && cm) := by
              unfold sComJ; rw [hp]; simp only; rw [hcb, hcm]
            have hC1 : ∀ z : Later wi, Calls Try.prog 149 #[.agg #[.int .i64 o.tx, .int .i64 o.kind, .int .i64 o.item], .agg #[.int .i64 p.tx, .int .i64 p.kind, .int .i64 p.item]] z.1 fun e w' => e = .returned (.bool cb) ∧ Below z.1.heap.size z.1 w' := fun z => by
              have := sconflict_any o p z.1; rw [hcb] at this; exact this
            have hC2 : ∀ z : Later wi, Calls Try.prog 148 #[.slice (some ⟨b, off, none⟩) n c, .int .i64 p.tx, .int .i64 (i : Int)] z.1 fun e w' => e = .returned (.bool cm) ∧ Below z.1.heap.size z.1 w' := fun z => by
              have := committedAt_any _ n c s p.tx i z.1 (hxi.later z) (by omega); rw [hcm] at this; exact this
            have HT2 : Hid (sComJ s ⟨qt, 2, qi⟩ o i (k + 1 + d) = true → (List.range i).any (sComIn s ⟨qt, 2, qi⟩ i) = true) := fun h => HT.out (by rw [HSV.out]; exact range_any_hit (f := fun d => sComJ s ⟨qt, 2, qi⟩ o i (k + 1 + d)) (k := d) (by omega) h)
            have HN2 : Hid (sComJ s ⟨qt, 2, qi⟩ o i (k + 1 + d) = false → ((List.range (d + 1)).any fun d => sComJ s ⟨qt, 2, qi⟩ o i (k + 1 + d)) = false) := fun h => by rw [range_any_succ, hno, h]; rfl
            have HJ := Lib.hid hj
            have HB := Lib.hid hbi
            obtain ⟨K, hK⟩ : ∃ K : Nat, k + 1 + d = K := ⟨_, rfl⟩
            have HKK := Lib.hid hK
            rw [hK] at hltd f0 f1 f2
            obtain ⟨ot, ok, oi⟩ := o
            obtain ⟨pt, pk, pi⟩ := p
            simp only at HJ c0 c1 c2 d0 d1 d2 f0 f1 f2 hC1 hC2
            have H1 := Lib.hid hC1
            have H2 := Lib.hid hC2
            have L0 := Later.cell c0
            have M0 := Later.cell d0
            have M1 := Later.cell d1
            have M2 := Later.cell d2
            have F0 := Later.cell f0
            have F1 := Later.cell f1
            have F2 := Later.cell f2
            have hKn : (K : Int) < (n : Int) := by omega
            have hK0 : (0 : Int) ≤ (K : Int) := by omega
            have hkn : (k : Int) < (n : Int) := by omega
            have hk0 : (0 : Int) ≤ (k : Int) := by omega
            rw [hK]
            clear hj hC1 hC2 hcb hcm hp hno hxi hbi c0 c1 c2 d0 d1 d2 f0 f1 f2 hK hb hd
            by_cases h1 : ot = qt
            · subst h1
              rw [beq_self_eq_true, Bool.true_and] at HJ
              cases cb
              · have hf := Lib.hid (HN2.out (by rw [HJ.out]; rfl))
                go_wp2_with fail
                refine region_later (by kernel_rfl) (by kernel_rfl) ?_
                repeat (go_big_quiet_step (first | (go_at_call 149; exact later_call _ (H1.out _)) | (go_at_call 148; exact later_call _ (H2.out _))))
                refine wpQuiet_nil ?_
                rintro _ ⟨z, rfl⟩
                have hbz := HB.out.trans (z.2.mono HB.out.size)
                go_wp2_with fail
                go_roundw
                case rel => exact ⟨d + 1, by have := HKK.out; omega, by have := HKK.out; go_num, hbz, hf.out⟩
                case measure => have := HKK.out; simp [intOf]; omega
              · cases cm
                · have hf := Lib.hid (HN2.out (by rw [HJ.out]; rfl))
                  go_wp2_with fail
                  refine region_later (by kernel_rfl) (by kernel_rfl) ?_
                  repeat (go_big_quiet_step (first | (go_at_call 149; exact later_call _ (H1.out _)) | (go_at_call 148; exact later_call _ (H2.out _))))
                  refine wpQuiet_nil ?_
                  rintro _ ⟨z, rfl⟩
                  have hbz := HB.out.trans (z.2.mono HB.out.size)
                  go_wp2_with fail
                  go_roundw
                  case rel => exact ⟨d + 1, by have := HKK.out; omega, by have := HKK.out; go_num, hbz, hf.out⟩
                  case measure => have := HKK.out; simp [intOf]; omega
                · have ht := Lib.hid (HT2.out (by rw [HJ.out]; rfl))
                  go_wp2_with fail
                  refine region_later (by kernel_rfl) (by kernel_rfl) ?_
                  repeat (go_big_quiet_step (first | (go_at_call 149; exact later_call _ (H1.out _)) | (go_at_call 148; exact later_call _ (H2.out _))))
                  refine wpQuiet_nil ?_
                  rintro _ ⟨z, rfl⟩
                  have hbz := HB.out.trans (z.2.mono HB.out.size)
                  go_wp2_with fail
                  go_ret2
                  exact ⟨by rw [ht.out]; rfl, hbz⟩
            · have h1' : (ot == qt) = false := by rw [beq_eq_false_iff_ne]; exact h1
              have hf := Lib.hid (HN2.out (by rw [HJ.out, h1']; rfl))
              go_wp2_with fail
              refine region_later (by kernel_rfl) (by kernel_rfl) ?_
              repeat (go_big_quiet_step (first | (go_at_call 149; exact later_call _ (H1.out _)) | (go_at_call 148; exact later_call _ (H2.out _))))
              refine wpQuiet_nil ?_
              rintro _ ⟨z, rfl⟩
              have hbz := HB.out.trans (z.2.mono HB.out.size)
              go_wp2_with fail
              go_roundw
              case rel => exact ⟨d + 1, by have := HKK.out; omega, by have := HKK.out; go_num, hbz, hf.out⟩
              case measure => have := HKK.out; simp [intOf]; omega
          · have hdn : s.length - (k + 1) = d := by omega
            have hf := Lib.hid (HN.out (by rw [HSV.out, hdn]; exact hno))
            obtain ⟨K, hK⟩ : ∃ K : Nat, k + 1 + d = K := ⟨_, rfl⟩
            rw [hK] at hltd ⊢
            have hKn : ¬ (K : Int) < (n : Int) := by omega
            clear hno hdn hK
            go_wp2_with fail
            go_roundw
            case rel => exact ⟨k + 1, by omega, by go_num, hbi, hf.out⟩
            case measure => simp [intOf]; omega
      · obtain rfl : k = i := by omega
        have HN := Lib.hid hno
        have hki : ¬ (k : Int) < (k : Int) := by omega
        clear hno
        go_wp2_with fail
        go_ret2
        exact ⟨by rw [HN.out]; rfl, hb⟩
    · have hk2' : (qk == 2) = false := by rw [beq_eq_false_iff_ne]; exact hk2
      by_cases hlt : k < i
      · have hki : (k : Int) < (i : Int) := by omega
        go_wp2_with fail
        go_ret2
        exact ⟨by first | rfl | (rw [hk2']; rfl) | simp [hk2], hb⟩
      · have hki : ¬ (k : Int) < (i : Int) := by omega
        go_wp2_with fail
        go_ret2
        exact ⟨by first | rfl | (rw [hk2']; rfl) | simp [hk2], hb⟩
set_option maxRecDepth 100000 in
set_option maxHeartbeats 1000000 in
theorem sbreaks_none (A : Option Addr) (n c i : Nat) (w : World) :
    Calls Try.prog 114 #[.string ⟨#[]⟩, .slice A n c, .int .i64 (i : Int)] w fun e w' => e = .returned (.tuple #[.bool false, .bool false]) ∧ Below w.heap.size w w' := by
  have s0 : ((⟨#[]⟩ : ByteArray) == { data := #[114, 101, 99, 111, 118, 101, 114, 97, 98, 108, 101] }) = false := by decide
  have s1 : ((⟨#[]⟩ : ByteArray) == { data := #[99, 97, 115, 99, 97, 100, 101, 115] }) = false := by decide
  have s2 : ((⟨#[]⟩ : ByteArray) == { data := #[115, 116, 114, 105, 99, 116] }) = false := by decide
  have s3 : ((⟨#[]⟩ : ByteArray) == { data := #[114, 105, 103, 111, 114, 111, 117, 115] }) = false := by decide
  have s4 : ((⟨#[]⟩ : ByteArray) == { data := #[99, 111, 109, 109, 105, 116, 115] }) = false := by decide
  go_enter Try.func114, Try.ntmps114
  go_wp2_with fail
  go_ret2
  exact ⟨rfl, Below.refl _ _⟩
end Go.Proofs.Ytncebpmckbcabaa
