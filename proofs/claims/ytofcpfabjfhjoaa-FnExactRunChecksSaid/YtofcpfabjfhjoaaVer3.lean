/-
  VersionsOf of the reference.
-/
import Derived.Test.YtofcpfabjfhjoaaVer2
namespace Go.Proofs.Ytofcpfabjfhjoaa
open Go.RowKit Go.BigFrame
set_option linter.unusedVariables false

set_option maxRecDepth 100000 in
set_option maxHeartbeats 4000000 in
theorem sVersionsOf_any (A : Option Addr) (n c : Nat) (s : List OpV) (w : World) (hx : ROps w A n s) (hnc : n ≤ c) :
    Calls Try.prog 46 #[.slice A n c] w (RetInts w (orNil (validS s) (versS s))) := by
  have hn := hx.2.1
  have hl := hx.1
  have HX := Lib.hid hx
  clear hx
  go_enter Try.func46, Try.ntmps46
  go_wp2_with fail
  refine (svalid'_any A n c s w HX.out hnc).mono ?_
  rintro e w1 ⟨rfl, hb1⟩
  cases hv : validS s
  · have HV := Lib.hid hv
    clear hv
    go_wp2_with fail
    go_ret
    rw [HV.out]
    exact RetInts.nil hb1
  · have HV := Lib.hid hv
    clear hv
    have hsz1 := hb1.size
    have hn16 : n ≤ 16 := by
      have := ((validS_iff s).1 HV.out).1
      omega
    go_wp2_with fail
    refine (survivors_any A n c s w1 (HX.out.below hb1 (Nat.le_refl _))).mono ?_
    rintro e w2 ⟨LA, lc, rfl, hlc, hfL, hb2⟩
    have hbw2 := hb1.trans (hb2.mono hb1.size)
    have hgood : Hid (versS s = versTo (verS s (survS s)) s s.length) := rfl
    have hLt : Hid (∀ ad, LA = some ad → ad.block < w2.heap.size) := fun ad had => (hfL.2 ad had).elim fun b h => by
      obtain ⟨cur, rfl, hge, hh, _⟩ := h
      exact lt_of_block hh
    have HST : Hid ((w2.alloc (.cells #[] 3)).ownsRow w2.heap.size 3 1 (.slice (some ⟨w2.heap.size, 0, none⟩) 0 0) 0 (intCells (versTo (verS s (survS s)) s 0))) :=
      World.ownsRow_made w2 #[] 0 (Nat.le_refl _) (by decide) rfl
    have hL := Lib.hid hfL.1
    generalize survS s = L at *
    have hlenL := hL.out.2.1
    have hsz2 := hbw2.size
    have HBW2 := Lib.hid hbw2
    have hne : Hid (∀ ad, LA = some ad → (Value.slice (some ⟨w2.heap.size, 0, none⟩) 0 0).ownBlock ≠ some ad.block) := by
      intro ad had e
      have := hLt.out ad had
      simp only [Value.ownBlock, Option.some.injEq] at e
      omega
    clear hfL hb1 hb2 hbw2
    go_wp2_with fail
    go_loopw [4, 5] (fun ov i wr => ∃ (k m : Nat), k ≤ n ∧ m ≤ k ∧ i = .int .i64 k ∧ Below w.heap.size w wr ∧ RInts wr LA L.length L ∧ wr.ownsRow w2.heap.size 3 1 ov m (intCells (versTo (verS s L) s k)) ∧ (∀ ad, LA = some ad → ov.ownBlock ≠ some ad.block) ∧ w2.heap.size ≤ wr.heap.size) (fun _ i _ => n - (intOf i).toNat)
    case atStart => exact ⟨0, 0, Nat.zero_le _, Nat.le_refl _, rfl, HBW2.out.alloc hsz2 _, hL.out.below ((Below.refl _ _).alloc (Nat.le_refl _) _) (Nat.le_refl _), HST.out, hne.out, by simp⟩
    case round =>
      clear HST hL
      obtain ⟨k, m, hk, hmk, rfl, hb, hLr, hown, hno, hK⟩ := hrel
      by_cases hlt : k < n
      · have hxr := HX.out.below hb (Nat.le_refl _)
        obtain ⟨b, off, o, rfl, hbl, ho, c0, c1, c2⟩ := hxr.at_ hlt
        have hs := hb.size
        have hstep := Lib.hid (versTo_succ (f := verS s L) ho)
        have hcl : ∀ W : World, Below wr.heap.size wr W → Calls Try.prog 92 #[.slice (some ⟨b, off, none⟩) n c, .slice LA L.length lc, .int .i64 (k : Int)] W fun e w' => e = .returned (.int .i64 (verS s L k o)) ∧ Below W.heap.size W w' := fun W hW =>
          versionAt_any _ LA n c lc k s L o W (hxr.below hW (Nat.le_refl _)) (hLr.below hW (Nat.le_refl _)) ho
        have HC := Lib.hid hcl
        have HL := Lib.hid hLr
        have HNO := Lib.hid hno
        clear hcl ho hxr hLr hno
        obtain ⟨tx, kd, it⟩ := o
        simp only at hstep c0 c1 c2
        by_cases h0 : kd = 0
        · subst h0
          go_wp2_with fail
          refine (HC.out wr (Below.refl _ _)).mono ?_
          rintro e w4 ⟨rfl, hb4⟩
          have hown4 := own_below hown hb4
          have hK4 := hb4.size
          have hbw4 := hb.trans (hb4.mono hs)
          have hL4 := Lib.hid (HL.out.below hb4 (Nat.le_refl _))
          obtain ⟨z, hz⟩ : ∃ z, verS s L k ⟨tx, 0, it⟩ = z := ⟨_, rfl⟩
          rw [hz] at hstep
          rw [hz]
          clear hb4 hz
          have hsz4 := hbw4.size
          go_wp2_with (at_builtin; refine app_ints (.tmp 24) (.tmp 29) (hown4.alloc _) (by simp; omega) (lit1 rfl _) (by omega) rfl rfl rfl rfl ?_; intro v5 w5 hown5 hg5 hat5)
          have hg5' := World.grownBy.trans (World.grownBy_alloc w4 _ _) hg5
          have hb5 := Below.own hbw4 hown4 hsz2 hg5'
          have hL5 : RInts w5 LA L.length L := hL4.out.grown hg5' HNO.out
          have hno5 : ∀ ad, LA = some ad → v5.ownBlock ≠ some ad.block := by
            intro ad had e
            rcases hat5 with h | h
            · rw [h] at e; exact HNO.out ad had e
            · rw [h] at e
              injection e with e
              have := hLt.out ad had
              simp at e
              omega
          go_roundw
          case rel => exact ⟨k + 1, m + 1, by omega, by omega, by go_num, hb5, hL5, by rw [hstep.out, if_pos (by simp)]; exact hown5, hno5, by have := hg5'.size; omega⟩
          case measure => simp [intOf]; omega
        · have h0' : (kd == 0) = false := by simpa using h0
          go_wp2_with fail
          go_roundw
          case rel => exact ⟨k + 1, m, by omega, by omega, by go_num, hb, HL.out, by rw [hstep.out, if_neg (by simp [h0'])]; exact hown, HNO.out, hK⟩
          case measure => simp [intOf]; omega
      · obtain ⟨Ao, co, rfl, hmc⟩ := own_form2 hown
        have e : versTo (verS s L) s k = versS s := by rw [hgood.out]; have : k = s.length := by omega
                                                       rw [this]
        rw [e] at hown
        have HO := Lib.hid (RetInts.mk (c := co) (own_lenInts hown) hmc (FreshInts.of_own hown hsz2 (by omega)) hb)
        clear hown e
        go_wp2_with fail
        go_ret
        rw [HV.out]
        exact HO.out
end Go.Proofs.Ytofcpfabjfhjoaa
