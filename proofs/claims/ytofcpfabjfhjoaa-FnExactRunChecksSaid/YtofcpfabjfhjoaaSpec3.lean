/-
  The reference: meets, survivors, SurvivorsOf.
-/
import Derived.Test.YtofcpfabjfhjoaaSpec2
namespace Go.Proofs.Ytofcpfabjfhjoaa
open Go.RowKit Go.BigFrame
set_option linter.unusedVariables false

def meetAt (s : List OpV) (t u x : Int) : Bool := touchB s s.length t 1 x && touchB s s.length u 1 x
def meetTo (s : List OpV) (t u : Int) (k : Nat) : Bool := ((List.range k).map fun i : Nat => (i : Int)).any fun x => meetAt s t u x
theorem meetTo_three (s : List OpV) (t u : Int) : meetTo s t u 3 = meetsB s t u := rfl
theorem meetTo_succ (s : List OpV) (t u : Int) (k : Nat) : meetTo s t u (k + 1) = (meetTo s t u k || meetAt s t u k) := by
  unfold meetTo
  rw [List.range_succ, List.map_append, List.any_append]
  simp
theorem meetTo_hit {s : List OpV} {t u : Int} {k : Nat} (hk : k < 3) (h : meetAt s t u k = true) : meetsB s t u = true := by
  rw [← meetTo_three]
  have h1 : meetTo s t u (k + 1) = true := by rw [meetTo_succ, h, Bool.or_true]
  rcases (by omega : k = 0 ∨ k = 1 ∨ k = 2) with rfl | rfl | rfl
  · rw [meetTo_succ, meetTo_succ, h1]; rfl
  · rw [meetTo_succ, h1]; rfl
  · exact h1

set_option maxHeartbeats 1000000 in
theorem meets_any (A : Option Addr) (n c : Nat) (s : List OpV) (t u : Int) (w : World) (hx : ROps w A n s) :
    Calls Try.prog 124 #[.slice A n c, .int .i64 t, .int .i64 u] w fun e w' => e = .returned (.bool (meetsB s t u)) ∧ Below w.heap.size w w' := by
  have hn := hx.2.1
  have hl := hx.1
  have HX := Lib.hid hx
  clear hx
  go_enter Try.func124, Try.ntmps124
  go_wp2_with fail
  go_loopw [7] (fun i wr => ∃ k : Nat, k ≤ 3 ∧ i = .int .i64 k ∧ Below w.heap.size w wr ∧ meetTo s t u k = false) (fun i _ => 3 - (intOf i).toNat)
  case atStart => exact ⟨0, by omega, rfl, Below.refl _ _, rfl⟩
  case round =>
    obtain ⟨k, hk, rfl, hb, hno⟩ := hrel
    by_cases hlt : k < 3
    · obtain ⟨b1, hb1⟩ : ∃ b1, touchB s n t 1 (k : Int) = b1 := ⟨_, rfl⟩
      obtain ⟨b2, hb2⟩ : ∃ b2, touchB s n u 1 (k : Int) = b2 := ⟨_, rfl⟩
      have hm : meetAt s t u k = (b1 && b2) := by unfold meetAt; rw [hl, hb1, hb2]
      have hT : ∀ W : World, Below w.heap.size w W → Calls Try.prog 132 #[.slice A n c, .int .i64 (n : Int), .int .i64 t, .int .i64 1, .int .i64 (k : Int)] W fun e w' => e = .returned (.bool b1) ∧ Below W.heap.size W w' := fun W h => by
        have := touches_any A n c n s t 1 k W (HX.out.below h (Nat.le_refl _)) (Nat.le_refl _)
        rw [hb1] at this; exact this
      have hU : ∀ W : World, Below w.heap.size w W → Calls Try.prog 132 #[.slice A n c, .int .i64 (n : Int), .int .i64 u, .int .i64 1, .int .i64 (k : Int)] W fun e w' => e = .returned (.bool b2) ∧ Below W.heap.size W w' := fun W h => by
        have := touches_any A n c n s u 1 k W (HX.out.below h (Nat.le_refl _)) (Nat.le_refl _)
        rw [hb2] at this; exact this
      have HT := Lib.hid hT
      have HU := Lib.hid hU
      have HM := Lib.hid hm
      have HN := Lib.hid hno
      clear hT hU hm hb1 hb2 hno
      go_wp2_with fail
      refine (HT.out _ hb).mono ?_
      rintro e w1 ⟨rfl, hb1⟩
      have hbw1 := hb.trans (hb1.mono hb.size)
      cases b1
      · have hz : Hid (meetTo s t u (k + 1) = false) := by show _ = _; rw [meetTo_succ, HN.out, HM.out]; rfl
        go_wp2_with fail
        go_roundw
        case rel => exact ⟨k + 1, by omega, by go_num, hbw1, hz.out⟩
        case measure => simp [intOf]; omega
      · go_wp2_with fail
        refine (HU.out _ hbw1).mono ?_
        rintro e w2 ⟨rfl, hb2⟩
        have hbw2 := hbw1.trans (hb2.mono hbw1.size)
        cases b2
        · have hz : Hid (meetTo s t u (k + 1) = false) := by show _ = _; rw [meetTo_succ, HN.out, HM.out]; rfl
          go_wp2_with fail
          go_roundw
          case rel => exact ⟨k + 1, by omega, by go_num, hbw2, hz.out⟩
          case measure => simp [intOf]; omega
        · have hz := Lib.hid (meetTo_hit hlt HM.out)
          go_wp2_with fail
          go_ret
          exact ⟨ret_bool hz.out.symm, hbw2⟩
    · obtain rfl : k = 3 := by omega
      rw [meetTo_three] at hno
      have HN := Lib.hid hno
      clear hno
      go_wp2_with fail
      go_ret
      exact ⟨ret_bool HN.out.symm, hb⟩

theorem svalid'_any (A : Option Addr) (n c : Nat) (s : List OpV) (w : World) (hx : ROps w A n s) (hnc : n ≤ c) :
    Calls Try.prog 70 #[.slice A n c] w fun e w' => e = .returned (.bool (validS s)) ∧ Below w.heap.size w w' := svalid_any A n c s w hx

def fS (s : List OpV) (t u : Int) : Bool := decide (commitN s u < stampN s t) || !meetsB s t u
def sStep (s : List OpV) (out : List Int) (o : OpV) : List Int := if o.kind == 2 && out.all (fS s o.tx) then out ++ [o.tx] else out
def sTo (s : List OpV) (k : Nat) : List Int := (s.take k).foldl (sStep s) []
def survS (s : List OpV) : List Int := s.foldl (sStep s) []
theorem sTo_succ {s : List OpV} {k : Nat} {o : OpV} (h : s[k]? = some o) : sTo s (k + 1) = sStep s (sTo s k) o := by
  unfold sTo
  rw [take_snoc h, List.foldl_append]; rfl
theorem sTo_all {s : List OpV} {k : Nat} (h : s.length ≤ k) : sTo s k = survS s := by
  unfold sTo survS
  rw [List.take_of_length_le h]
theorem all_take_succ {xs : List Int} {f : Int → Bool} {k : Nat} {x : Int} (h : xs[k]? = some x) : (xs.take (k + 1)).all f = ((xs.take k).all f && f x) := by
  rw [take_snoc h, List.all_append]; simp
theorem all_of_take_false {xs : List Int} {f : Int → Bool} {k : Nat} (h : (xs.take k).all f = false) : xs.all f = false := by
  rw [List.all_eq_false] at *
  obtain ⟨x, hx, h1⟩ := h
  exact ⟨x, List.mem_of_mem_take hx, h1⟩

set_option maxRecDepth 100000 in
set_option maxHeartbeats 2000000 in
theorem survivors_any (A : Option Addr) (n c : Nat) (s : List OpV) (w : World) (hx : ROps w A n s) :
    Calls Try.prog 71 #[.slice A n c] w (RetInts w (survS s)) := by
  have hn := hx.2.1
  have hl := hx.1
  have HX := Lib.hid hx
  clear hx
  have HST : Hid ((w.alloc (.cells #[] 3)).ownsRow w.heap.size 3 1 (.slice (some ⟨w.heap.size, 0, none⟩) 0 0) 0 (intCells (sTo s 0))) :=
    World.ownsRow_made w #[] 0 (Nat.le_refl _) (by decide) rfl
  go_enter Try.func71, Try.ntmps71
  go_wp2_with fail
  go_loopw [3, 4] (fun ov i wr => ∃ (k m : Nat), k ≤ n ∧ m ≤ k ∧ i = .int .i64 k ∧ Below w.heap.size w wr ∧ wr.ownsRow w.heap.size 3 1 ov m (intCells (sTo s k))) (fun _ i _ => n - (intOf i).toNat)
  case atStart => exact ⟨0, 0, Nat.zero_le _, Nat.le_refl _, rfl, (Below.refl _ _).alloc (Nat.le_refl _) _, HST.out⟩
  case round =>
    clear HST
    obtain ⟨wo, rfl⟩ : ∃ wo : World, wo = wr := ⟨_, rfl⟩
    obtain ⟨i, m, hi, hmi, rfl, hb, hown⟩ := hrel
    by_cases hlt : i < n
    · have hxr := HX.out.below hb (Nat.le_refl _)
      obtain ⟨b, off, o, rfl, hbl, ho, c0, c1, c2⟩ := hxr.at_ hlt
      have HX2 := Lib.hid hxr
      have hs := hb.size
      have hstep := Lib.hid (sTo_succ ho)
      obtain ⟨Ao, co, rfl, hmc⟩ := own_form2 hown
      have hri := RInts.of_own hown (by omega)
      have hml := own_lenInts hown
      have HRI := Lib.hid hri
      clear hxr ho hri
      obtain ⟨tx, kd, it⟩ := o
      simp only at hstep c0 c1 c2
      generalize hO : sTo s i = out at *
      have HO := Lib.hid hO
      clear hO
      obtain ⟨bk, hbk⟩ : ∃ bk, (kd == 2) = bk := ⟨_, rfl⟩
      go_wp2_with fail
      go_loopw [5, 6] (fun okv j wr => ∃ (k : Nat) (ok : Bool), k ≤ m ∧ j = .int .i64 k ∧ okv = .bool ok ∧ ok = (bk && (out.take k).all (fS s tx)) ∧ Below wo.heap.size wo wr) (fun _ j _ => m - (intOf j).toNat)
      case atStart => exact ⟨0, bk, Nat.zero_le _, rfl, by first | rfl | rw [hbk] | rw [← hbk], by simp, Below.refl _ _⟩
      case round =>
        obtain ⟨k, ok, hk, rfl, rfl, hok, hb1⟩ := hrel
        have HOK := Lib.hid hok
        clear hok
        have hsz := hb1.size
        by_cases hcont : k < m ∧ ok = true
        · obtain ⟨hlt2, rfl⟩ := hcont
          obtain ⟨bo, offo, x, hA, hbo, hxx, hcx⟩ := HRI.out.at_ hlt2
          subst hA
          have hall := Lib.hid (all_take_succ (f := fS s tx) hxx)
          have hxr := HX2.out.below hb1 (Nat.le_refl _)
          have L0 := Later.cell ((hb1.cell (p := ⟨b, off + i * 3, none⟩) (by simpa using hbl)).trans c0)
          have L1 := Later.cell ((hb1.cell (p := ⟨bo, offo + k, none⟩) (by simpa using hbo)).trans hcx)
          have hC : ∀ u : Later wr, Calls Try.prog 122 #[.slice (some ⟨b, off, none⟩) n c, .int .i64 x] u.1 fun e w' => e = .returned (.int .i64 (commitN s x : Nat)) ∧ Below u.1.heap.size u.1 w' := fun u => commitAt_any _ n c s x u.1 (hxr.later u)
          have hF : ∀ u : Later wr, Calls Try.prog 123 #[.slice (some ⟨b, off, none⟩) n c, .int .i64 tx] u.1 fun e w' => e = .returned (.int .i64 (stampN s tx : Nat)) ∧ Below u.1.heap.size u.1 w' := fun u => stampOf_any _ n c s tx u.1 (hxr.later u)
          obtain ⟨bm, hbm⟩ : ∃ bm, meetsB s tx x = bm := ⟨_, rfl⟩
          have hM : ∀ u : Later wr, Calls Try.prog 124 #[.slice (some ⟨b, off, none⟩) n c, .int .i64 tx, .int .i64 x] u.1 fun e w' => e = .returned (.bool bm) ∧ Below u.1.heap.size u.1 w' := fun u => by
            have := meets_any _ n c s tx x u.1 (hxr.later u); rw [hbm] at this; exact this
          have HC := Lib.hid hC
          have HF := Lib.hid hF
          have HM := Lib.hid hM
          have hfS : fS s tx x = (decide (commitN s x < stampN s tx) || !bm) := by unfold fS; rw [hbm]
          obtain ⟨cx, hcx'⟩ : ∃ cx, commitN s x = cx := ⟨_, rfl⟩
          obtain ⟨st, hst⟩ : ∃ st, stampN s tx = st := ⟨_, rfl⟩
          rw [hcx'] at HC hfS
          rw [hst] at HF hfS
          have HFS := Lib.hid hfS
          clear hC hF hM hxr hxx hcx hbm hfS hcx' hst hbk
          have hki : (k : Int) < (m : Int) := by omega
          have hii : (i : Int) < (n : Int) := by omega
          by_cases hlt3 : cx < st
          · have hd : decide (cx < st) = true := by simpa using hlt3
            go_wp2_with fail
            refine region_later (by kernel_rfl) (by kernel_rfl) ?_
            repeat (go_big_quiet_step ((first | (go_at_call 122; exact later_call _ (HC.out _)) | (go_at_call 123; exact later_call _ (HF.out _)))))
            refine wpQuiet_nil ?_
            rintro _ ⟨u, rfl⟩
            have hbu := hb1.trans (u.2.mono hb1.size)
            go_wp2_with fail
            go_roundw
            case rel => exact ⟨k + 1, true, by omega, by go_num, rfl, by rw [hall.out, HFS.out, hd, ← Bool.and_assoc, ← HOK.out]; rfl, hbu⟩
            case measure => simp [intOf]; omega
          · have hd : decide (cx < st) = false := by simpa using hlt3
            go_wp2_with fail
            refine region_later (by kernel_rfl) (by kernel_rfl) ?_
            repeat (go_big_quiet_step ((first | (go_at_call 122; exact later_call _ (HC.out _)) | (go_at_call 123; exact later_call _ (HF.out _)) | (go_at_call 124; exact later_call _ (HM.out _)))))
            refine wpQuiet_nil ?_
            rintro _ ⟨u, rfl⟩
            have hbu := hb1.trans (u.2.mono hb1.size)
            go_wp2_with fail
            go_roundw
            case rel => exact ⟨k + 1, !bm, by omega, by go_num, rfl, by rw [hall.out, HFS.out, hd, ← Bool.and_assoc, ← HOK.out]; rfl, hbu⟩
            case measure => simp [intOf]; omega
        · have hownr := own_below hown hb1
          have hbw := hb.trans (hb1.mono hs)
          have hxr := HX2.out.below hb1 (Nat.le_refl _)
          have hcr := (hb1.cell (p := ⟨b, off + i * 3, none⟩) (by simpa using hbl)).trans c0
          have HBK := Lib.hid hbk
          clear hbk
          cases ok
          · have hfin : Hid (sTo s (i + 1) = out) := by
              show _ = _
              rw [hstep.out]
              unfold sStep
              have h1 := HOK.out
              have : (kd == 2 && out.all (fS s tx)) = false := by
                rw [HBK.out]
                cases bk with
                | false => rfl
                | true => exact all_of_take_false (k := k) (by simpa using h1.symm)
              rw [this]; rfl
            go_wp2_with fail
            all_goals
              go_roundw
              case rel => exact ⟨i + 1, m, by omega, by omega, by go_num, hbw, by rw [hfin.out]; exact hownr⟩
              case measure => simp [intOf]; omega
          · have hkm : ¬ k < m := fun h => hcont ⟨h, rfl⟩
            obtain rfl : k = m := by omega
            have hfin : Hid (sTo s (i + 1) = out ++ [tx]) := by
              show _ = _
              rw [hstep.out]
              unfold sStep
              have h1 := HOK.out
              rw [List.take_of_length_le (by omega)] at h1
              rw [HBK.out, ← h1]; rfl
            go_wp2_with (at_builtin; refine app_ints (.tmp 58) (.tmp 64) (hownr.alloc _) (by simp; omega) (lit1 rfl _) (by omega) rfl rfl rfl rfl ?_; intro v3 w3 hown3 hg3 hat3)
            have hb3 := Below.own hbw hownr (Nat.le_refl _) (World.grownBy.trans (World.grownBy_alloc wr _ _) hg3)
            go_roundw
            case rel => exact ⟨i + 1, k + 1, by omega, by omega, by go_num, hb3, by rw [hfin.out]; exact hown3⟩
            case measure => simp [intOf]; omega
    · obtain ⟨Ao, co, rfl, hmc⟩ := own_form2 hown
      rw [sTo_all (by omega)] at hown
      have HO := Lib.hid (RetInts.mk (c := co) (own_lenInts hown) hmc (FreshInts.of_own hown (Nat.le_refl _) (by omega)) hb)
      clear hown
      go_wp2_with fail
      go_ret
      exact HO.out


set_option maxHeartbeats 400000 in
theorem sSurvivorsOf_any (A : Option Addr) (n c : Nat) (s : List OpV) (w : World) (hx : ROps w A n s) (hnc : n ≤ c) :
    Calls Try.prog 18 #[.slice A n c] w (RetInts w (orNil (validS s) (survS s))) := by
  have HX := Lib.hid hx
  clear hx
  go_enter Try.func18, Try.ntmps18
  go_wp2_with fail
  refine (svalid'_any A n c s w HX.out hnc).mono ?_
  rintro e w1 ⟨rfl, hb⟩
  cases hv : validS s
  · have HV := Lib.hid hv
    clear hv
    go_wp2_with fail
    go_ret
    rw [HV.out]
    exact RetInts.nil hb
  · have HV := Lib.hid hv
    clear hv
    go_wp2_with fail
    refine (survivors_any A n c s w1 (HX.out.below hb (Nat.le_refl _))).mono ?_
    rintro e w2 hr
    obtain ⟨A', c', rfl, hr'⟩ := hr
    have HR : Hid (RetInts w1 (survS s) (.returned (.slice A' ((survS s)).length c')) w2) := ⟨A', c', rfl, hr'⟩
    clear hr'
    go_wp2_with fail
    go_ret
    rw [HV.out]
    exact RetInts.later hb HR.out

end Go.Proofs.Ytofcpfabjfhjoaa
