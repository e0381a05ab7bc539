/-
  VersionsOf of the program and of the reference.
-/
import Derived.Test.YtofcpfabjfhjoaaVer1
import Derived.Test.YtofcpfabjfhjoaaPlain1
namespace Go.Proofs.Ytofcpfabjfhjoaa
open Go.RowKit Go.BigFrame
set_option linter.unusedVariables false

/-- For each read of the first k operations what f tells. -/
def versTo (f : Nat → OpV → Int) (s : List OpV) : Nat → List Int
  | 0 => []
  | k + 1 => match s[k]? with | some o => if o.kind == 0 then versTo f s k ++ [f k o] else versTo f s k | none => versTo f s k
theorem versTo_succ {f : Nat → OpV → Int} {s : List OpV} {k : Nat} {o : OpV} (h : s[k]? = some o) : versTo f s (k + 1) = if o.kind == 0 then versTo f s k ++ [f k o] else versTo f s k := by simp only [versTo, h]
theorem versTo_congr {f g : Nat → OpV → Int} {s : List OpV} (h : ∀ k o, s[k]? = some o → f k o = g k o) (k : Nat) : versTo f s k = versTo g s k := by
  induction k with
  | zero => rfl
  | succ k ih =>
    simp only [versTo]
    cases e : s[k]? with
    | none => simp only [ih]
    | some o => simp only [ih, h k o e]
def versI (s : List OpV) : List Int := versTo (verI s (survI s)) s s.length
def versS (s : List OpV) : List Int := versTo (verS s (survS s)) s s.length
theorem vers_eq {s : List OpV} (h : validS s = true) : versI s = versS s := by
  unfold versI versS
  rw [surv_eq h]
  exact versTo_congr (fun k o ho => ver_eq h ho) _

set_option maxRecDepth 100000 in
set_option maxHeartbeats 4000000 in
theorem VersionsOf_any (A : Option Addr) (n c : Nat) (s : List OpV) (w : World) (hx : ROps w A n s) (hnc : n ≤ c) :
    Calls Try.prog 45 #[.slice A n c] w (RetInts w (orNil (validS s) (versI s))) := by
  have hn := hx.2.1
  have hl := hx.1
  have HX := Lib.hid hx
  clear hx
  obtain ⟨i0, hi, hz0, hz1, hz2⟩ := info_parts intInfo
  go_enter Try.func45, Try.ntmps45
  go_wp2_with fail
  refine (ValidSchedule_any A n c s w HX.out hnc).mono ?_
  rintro e w1 ⟨rfl, hb1⟩
  cases hv : validS s
  · have HV := Lib.hid hv
    clear hv
    go_wp2_with fail
    go_ret
    rw [HV.out]
    exact RetInts.nil hb1
  · have HV := Lib.hid hv
    clear hv
    have hsz1 := hb1.size
    have hn16 : n ≤ 16 := by
      have := ((validS_iff s).1 HV.out).1
      omega
    go_wp2_with (at_make; refine wpList_make_own _ rfl _ _ 25 rfl w.heap.size 3 i0 _ 1 Try.underlying25 hi hz0 hz1 .i64 .i64 _ n rfl rfl rfl (by rw [hz2]; omega) (by unfold maxLen; omega) hsz1 ?_; intro w2 hown2 hg2)
    have hb2 : Below w.heap.size w w2 := hb1.grown hg2 hsz1 (by simp)
    have HB2 := Lib.hid hb2
    clear hg2 hi hz0 hz1 hz2 hb1
    refine (survivorsOf_any A n c s w2 (HX.out.below hb2 (Nat.le_refl _)) (validS_items HV.out)).mono ?_
    rintro e w3 ⟨LA, lc, rfl, hlc, hfL, hb3⟩
    have hown3 := own_below hown2 hb3
    have hbw3 := hb2.trans (hb3.mono hb2.size)
    have hgood : Hid (versI s = versTo (verI s (survI s)) s s.length) := rfl
    have hne : ∀ ad, LA = some ad → (Value.slice (some ⟨w1.heap.size, 0, none⟩) 0 n).ownBlock ≠ some ad.block := by
      intro ad had e
      obtain ⟨b, cur, rfl, hge, hh, _⟩ := hfL.2 ad had
      have hlt := (World.ownsRow.lt hown2 _ rfl).2
      simp only [Value.ownBlock, Option.some.injEq] at e
      simp only at hlt
      omega
    have hLt : Hid (∀ ad, LA = some ad → ad.block < w3.heap.size) := fun ad had => by
      obtain ⟨b, cur, rfl, hge, hh, _⟩ := hfL.2 ad had
      exact lt_of_block hh
    obtain ⟨K3, hK3⟩ : ∃ z, w3.heap.size = z := ⟨_, rfl⟩
    rw [hK3] at hLt
    have hL := Lib.hid hfL.1
    generalize survI s = L at *
    have HST := Lib.hid (And.intro hown3 (And.intro hbw3 hne))
    have hlenL := hL.out.2.1
    clear hfL hown2 hb2 hb3 hown3 hbw3 hne
    go_wp2_with fail
    go_loopw [3, 17] (fun ov i wr => ∃ (k m : Nat), k ≤ n ∧ m ≤ k ∧ i = .int .i64 k ∧ Below w.heap.size w wr ∧ RInts wr LA L.length L ∧ wr.ownsRow w.heap.size 3 1 ov m (intCells (versTo (verI s L) s k)) ∧ (∀ ad, LA = some ad → ov.ownBlock ≠ some ad.block) ∧ K3 ≤ wr.heap.size) (fun _ i _ => n - (intOf i).toNat)
    case atStart => exact ⟨0, 0, Nat.zero_le _, Nat.le_refl _, rfl, HST.out.2.1, hL.out, HST.out.1, HST.out.2.2, by omega⟩
    case round =>
      clear HST hL
      obtain ⟨k, m, hk, hmk, rfl, hb, hLr, hown, hno, hK⟩ := hrel
      by_cases hlt : k < n
      · have hxr := HX.out.below hb (Nat.le_refl _)
        obtain ⟨b, off, o, rfl, hbl, ho, c0, c1, c2⟩ := hxr.at_ hlt
        have hs := hb.size
        have hstep := Lib.hid (versTo_succ (f := verI s L) ho)
        have hit := validS_item HV.out (List.mem_of_getElem? ho)
        have hcl : ∀ W : World, Below wr.heap.size wr W → Calls Try.prog 91 #[.slice (some ⟨b, off, none⟩) n c, .slice LA L.length lc, .int .i64 (k : Int)] W fun e w' => e = .returned (.int .i64 (verI s L k o)) ∧ Below W.heap.size W w' := fun W hW =>
          versionOf_any _ LA n c lc k s L o W (hxr.below hW (Nat.le_refl _)) (hLr.below hW (Nat.le_refl _)) ho hnc (validS_items HV.out) hit
        have HC := Lib.hid hcl
        have HL := Lib.hid hLr
        have HNO := Lib.hid hno
        clear hcl ho hxr hLr hno hit
        obtain ⟨tx, kd, it⟩ := o
        simp only at hstep c0 c1 c2
        by_cases h0 : kd = 0
        · subst h0
          go_wp2_with fail
          obtain ⟨W, hW⟩ : ∃ W : World, W = wr.alloc (.cells #[.int .i64 tx, .int .i64 0, .int .i64 it] 46) := ⟨_, rfl⟩
          rw [← hW]
          have hbW : Below wr.heap.size wr W := by rw [hW]; exact (Below.refl _ _).alloc (Nat.le_refl _) _
          have hownW : W.ownsRow w.heap.size 3 1 u3 m (intCells (versTo (verI s L) s k)) := by rw [hW]; exact hown.alloc _
          clear hW
          refine (HC.out W hbW).mono ?_
          rintro e w4 ⟨rfl, hb4⟩
          have hown4 := own_below hownW hb4
          have hb14 := hbW.trans (hb4.mono hbW.size)
          have hK4 := hb14.size
          have hbw4 := hb.trans (hb14.mono hs)
          have hL4 := Lib.hid (HL.out.below hb14 (Nat.le_refl _))
          obtain ⟨z, hz⟩ : ∃ z, verI s L k ⟨tx, 0, it⟩ = z := ⟨_, rfl⟩
          rw [hz] at hstep
          rw [hz]
          clear hb14 hb4 hbW hownW hz
          have hsz4 := hbw4.size
          go_wp2_with (at_builtin; refine app_ints (.tmp 25) (.tmp 30) (hown4.alloc _) (by simp; omega) (lit1 rfl _) (by omega) rfl rfl rfl rfl ?_; intro v5 w5 hown5 hg5 hat5)
          have hg5' := World.grownBy.trans (World.grownBy_alloc w4 _ _) hg5
          have hb5 := Below.own hbw4 hown4 (Nat.le_refl _) hg5'
          have hL5 : RInts w5 LA L.length L := hL4.out.grown hg5' HNO.out
          have hno5 : ∀ ad, LA = some ad → v5.ownBlock ≠ some ad.block := by
            intro ad had e
            rcases hat5 with h | h
            · rw [h] at e; exact HNO.out ad had e
            · rw [h] at e
              injection e with e
              have := hLt.out ad had
              simp at e
              omega
          go_roundw
          case rel => exact ⟨k + 1, m + 1, by omega, by omega, by go_num, hb5, hL5, by rw [hstep.out, if_pos (by simp)]; exact hown5, hno5, by have := hg5'.size; omega⟩
          case measure => simp [intOf]; omega
        · have h0' : (kd == 0) = false := by simpa using h0
          go_wp2_with fail
          go_roundw
          case rel => exact ⟨k + 1, m, by omega, by omega, by go_num, hb.trans ((by (repeat (first | exact Below.refl _ _ | assumption | refine B_alloc ?_ (Nat.le_refl _) _ | refine Below.drew ?_ | refine B_drewN ?_ _ | refine B_after (by assumption) ?_ | (refine B_set ?_ ?_; rotate_left; (first | exact Nat.le_refl _ | (simp; done) | (simp at *; omega))))) : Below wr.heap.size wr _).mono hb.size), HL.out.below (by (repeat (first | exact Below.refl _ _ | assumption | refine B_alloc ?_ (Nat.le_refl _) _ | refine Below.drew ?_ | refine B_drewN ?_ _ | refine B_after (by assumption) ?_ | (refine B_set ?_ ?_; rotate_left; (first | exact Nat.le_refl _ | (simp; done) | (simp at *; omega)))))) (Nat.le_refl _), by rw [hstep.out, if_neg (by simp [h0'])]; exact hown.alloc _, HNO.out, by simp; omega⟩
          case measure => simp [intOf]; omega
      · obtain ⟨Ao, co, rfl, hmc⟩ := own_form2 hown
        have e : versTo (verI s L) s k = versI s := by rw [hgood.out]; have : k = s.length := by omega
                                                       rw [this]
        rw [e] at hown
        have HO := Lib.hid (RetInts.mk (c := m) (own_lenInts hown) (Nat.le_refl _) (FreshInts.of_own hown (Nat.le_refl _) (by omega)) hb)
        clear hown e
        go_wp2_with fail
        go_ret
        rw [HV.out]
        exact HO.out
end Go.Proofs.Ytofcpfabjfhjoaa
