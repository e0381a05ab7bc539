/-
  Texts that the proof rests on, joined: part 38.
-/
import Derived.StillTailTactics
import Derived.Test.YtncebpmckbcabaaSJ1
import Derived.Test.YtncebpmckbcabaaSJ5
import Derived.Test.YtncebpmckbcabaaSJ32
import Derived.Test.YtncebpmckbcabaaSJ36
import Derived.Test.YtncebpmckbcabaaSJ37
namespace Go.Proofs.Ytncebpmckbcabaa
open Go.RowKit Go.BigFrame
set_option linter.unusedVariables false

theorem FreshOps.at_ {w0 w : World} {A : Option Addr} {n : Nat} {xs : List OpV} (h : FreshOps w0 w A n xs) : ∀ ad, A = some ad → w0.heap.size ≤ ad.block ∧ ad.block < w.heap.size := by
  intro ad had
  obtain ⟨b, cur, rfl, hge, hh, _⟩ := h.2 ad had
  exact ⟨hge, lt_of_block hh⟩
theorem FreshInts.at_ {w0 w : World} {A : Option Addr} {n : Nat} {xs : List Int} (h : FreshInts w0 w A n xs) : ∀ ad, A = some ad → w0.heap.size ≤ ad.block ∧ ad.block < w.heap.size := by
  intro ad had
  obtain ⟨b, cur, rfl, hge, hh, _⟩ := h.2 ad had
  exact ⟨hge, lt_of_block hh⟩
theorem FreshOps.below {w0 w w' : World} {A : Option Addr} {n : Nat} {xs : List OpV} (h : FreshOps w0 w A n xs) (hb : Below w.heap.size w w') : FreshOps w0 w' A n xs :=
  ⟨h.1.below hb (Nat.le_refl _), fun ad had => by obtain ⟨b, cur, e, hge, hh, hs⟩ := h.2 ad had; exact ⟨b, cur, e, hge, (hb.block b (lt_of_block hh)).trans hh, hs⟩⟩
theorem FreshInts.below {w0 w w' : World} {A : Option Addr} {n : Nat} {xs : List Int} (h : FreshInts w0 w A n xs) (hb : Below w.heap.size w w') : FreshInts w0 w' A n xs :=
  ⟨h.1.below hb (Nat.le_refl _), fun ad had => by obtain ⟨b, cur, e, hge, hh, hs⟩ := h.2 ad had; exact ⟨b, cur, e, hge, (hb.block b (lt_of_block hh)).trans hh, hs⟩⟩
/-- The block of one address is not that of the other. -/
def Apart (A B : Option Addr) : Prop := ∀ a b, A = some a → B = some b → a.block ≠ b.block
theorem Apart.row {A B : Option Addr} (h : Apart A B) : ∀ b, B = some b → A.map Addr.block ≠ some b.block := by
  intro b hb e
  cases A with
  | none => cases e
  | some a => injection e with e; exact h a b rfl hb e
theorem Apart.symm {A B : Option Addr} (h : Apart A B) : Apart B A := fun a b ha hb e => h b a hb ha e.symm
theorem FreshInts.grown {w0 w w' : World} {A : Option Addr} {n : Nat} {xs : List Int} {row : Option Nat} (h : FreshInts w0 w A n xs) (hg : w.grownBy w' row) (hne : ∀ b, A = some b → row ≠ some b.block) : FreshInts w0 w' A n xs :=
  ⟨h.1.grown hg hne, fun ad had => by obtain ⟨b, cur, e, hge, hh, hs⟩ := h.2 ad had; exact ⟨b, cur, e, hge, (hg.block b (lt_of_block hh) (fun e2 => hne _ had (by rw [← e2, e]))).trans hh, hs⟩⟩
theorem FreshOps.grown {w0 w w' : World} {A : Option Addr} {n : Nat} {xs : List OpV} {row : Option Nat} (h : FreshOps w0 w A n xs) (hg : w.grownBy w' row) (hne : ∀ b, A = some b → row ≠ some b.block) : FreshOps w0 w' A n xs :=
  ⟨h.1.grown hg hne, fun ad had => by obtain ⟨b, cur, e, hge, hh, hs⟩ := h.2 ad had; exact ⟨b, cur, e, hge, (hg.block b (lt_of_block hh) (fun e2 => hne _ had (by rw [← e2, e]))).trans hh, hs⟩⟩
end Go.Proofs.Ytncebpmckbcabaa
namespace Go.Proofs.Ytncebpmckbcabaa
open Go.RowKit Go.BigFrame
set_option linter.unusedVariables false

/-- The run of a named rule; the zero desk where there is none. -/
def runDV (b : ByteArray) (s : List OpV) : Dsk := if runOk b s then (match rulOf b with | some r => runD r s | none => Dsk.zero) else Dsk.zero
theorem runDV_no {b : ByteArray} {s : List OpV} (h : runOk b s = false) : runDV b s = Dsk.zero := by unfold runDV; rw [h]; rfl
theorem runDV_of {b : ByteArray} {s : List OpV} {r : Rul} (h : runOk b s = true) (hr : rulOf b = some r) : runDV b s = runD r s := by unfold runDV; rw [h, hr]; rfl
def FreshSteps (w0 w : World) (A : Option Addr) (n : Nat) (xs : List OpV) : Prop :=
  ROps w A n xs ∧ ∀ ad, A = some ad → ∃ b cur, ad = ⟨b, 0, none⟩ ∧ w0.heap.size ≤ b ∧ w.heap[b]? = some (.cells cur 73 (0, 0)) ∧ n * 3 ≤ cur.size
theorem FreshSteps.none_ {w0 w : World} : FreshSteps w0 w none 0 [] := ⟨ROps.nil, fun ad h => by cases h⟩
theorem FreshSteps.of_own {w0 w : World} {base n c : Nat} {A : Option Addr} {xs : List OpV} (h : w.ownsRow base 73 3 (.slice A n c) n (opCells xs)) (hb : w0.heap.size ≤ base) (hn : n ≤ 1099511627776) : FreshSteps w0 w A n xs := by
  refine ⟨ROps.of_own h hn, fun ad had => ?_⟩
  subst had
  rcases h.2 with ⟨h1, h2⟩ | ⟨g, cap, cur, h1, h2, h3, h4, h5, h6, h7⟩
  · cases h1
  · injection h1 with ha _ hc
    injection ha with ha
    subst ha
    exact ⟨g, cur, rfl, by omega, h3, by rw [h6]; omega⟩
theorem FreshSteps.at_ {w0 w : World} {A : Option Addr} {n : Nat} {xs : List OpV} (h : FreshSteps w0 w A n xs) : ∀ ad, A = some ad → w0.heap.size ≤ ad.block ∧ ad.block < w.heap.size := by
  intro ad had
  obtain ⟨b, cur, rfl, hge, hh, _⟩ := h.2 ad had
  exact ⟨hge, lt_of_block hh⟩
theorem FreshSteps.below {w0 w w' : World} {A : Option Addr} {n : Nat} {xs : List OpV} (h : FreshSteps w0 w A n xs) (hb : Below w.heap.size w w') : FreshSteps w0 w' A n xs :=
  ⟨h.1.below hb (Nat.le_refl _), fun ad had => by obtain ⟨b, cur, e, hge, hh, hs⟩ := h.2 ad had; exact ⟨b, cur, e, hge, (hb.block b (lt_of_block hh)).trans hh, hs⟩⟩
theorem FreshSteps.grown {w0 w w' : World} {A : Option Addr} {n : Nat} {xs : List OpV} {row : Option Nat} (h : FreshSteps w0 w A n xs) (hg : w.grownBy w' row) (hne : ∀ b, A = some b → row ≠ some b.block) : FreshSteps w0 w' A n xs :=
  ⟨h.1.grown hg hne, fun ad had => by obtain ⟨b, cur, e, hge, hh, hs⟩ := h.2 ad had; exact ⟨b, cur, e, hge, (hg.block b (lt_of_block hh) (fun e2 => hne _ had (by rw [← e2, e]))).trans hh, hs⟩⟩
/-- A desk in new memory, each of its slices at its length. -/
def DeskR (w0 w : World) (D : Dsk) (v : Value) : Prop := ∃ (Ad Aw Al Ak : Option Addr) (nd nw nl nk : Nat),
  v = .agg #[.slice Ad nd nd, .slice Aw nw nw, .slice Al nl nl, .slice Ak nk nk] ∧ FreshOps w0 w Ad nd D.done ∧ FreshOps w0 w Aw nw D.wait ∧ FreshSteps w0 w Al nl D.locks ∧ FreshInts w0 w Ak nk D.dead ∧ Apart Ad Aw
theorem DeskR.zero {w0 w : World} : DeskR w0 w Dsk.zero (.agg #[.slice none 0 0, .slice none 0 0, .slice none 0 0, .slice none 0 0]) :=
  ⟨none, none, none, none, 0, 0, 0, 0, rfl, FreshOps.none_, FreshOps.none_, FreshSteps.none_, FreshInts.none_, fun a b h => by cases h⟩
theorem DeskR.below {w0 w w' : World} {D : Dsk} {v : Value} (h : DeskR w0 w D v) (hb : Below w.heap.size w w') : DeskR w0 w' D v := by
  obtain ⟨Ad, Aw, Al, Ak, nd, nw, nl, nk, rfl, h1, h2, h3, h4, h5⟩ := h
  exact ⟨Ad, Aw, Al, Ak, nd, nw, nl, nk, rfl, h1.below hb, h2.below hb, h3.below hb, h4.below hb, h5⟩
theorem desk_out {w0 w : World} {B nd nw nl nk cd cw cl ck : Nat} {Ad Aw Al Ak : Option Addr} {D : Dsk} (h : DeskAt w B ⟨.slice Ad nd cd, .slice Aw nw cw, .slice Al nl cl, .slice Ak nk ck⟩ D) (hB : w0.heap.size ≤ B)
    (h1 : D.done.length = nd) (h2 : D.wait.length = nw) (h3 : D.locks.length = nl) (h4 : D.dead.length = nk) (m1 : nd ≤ 9000) (m2 : nw ≤ 9000) (m3 : nl ≤ 9000) (m4 : nk ≤ 9000) :
    DeskR w0 w D (.agg #[.slice Ad nd nd, .slice Aw nw nw, .slice Al nl nl, .slice Ak nk nk]) :=
  ⟨Ad, Aw, Al, Ak, nd, nw, nl, nk, rfl, FreshOps.of_own (by have := h.done; rw [h1] at this; exact this) hB (by omega), FreshOps.of_own (by have := h.wait; rw [h2] at this; exact this) hB (by omega), FreshSteps.of_own (by have := h.locks; rw [h3] at this; exact this) hB (by omega), FreshInts.of_own (by have := h.dead; rw [h4] at this; exact this) hB (by omega), fun a b ha hb e => by
    have := h.sep a.block (by rw [ha]; rfl)
    rw [hb] at this
    exact this (by rw [e]; rfl)⟩
def RetRun (b : ByteArray) (s : List OpV) (w : World) (e : Ending) (w' : World) : Prop :=
  Below w.heap.size w w' ∧ ∃ v, e = .returned (.tuple #[v, .bool (runOk b s)]) ∧ DeskR w w' (runDV b s) v
def waitsV (b : ByteArray) (s : List OpV) : List Int := if runOk b s then rowsI (waitsR (runDV b s)) else []
set_option maxRecDepth 100000 in
set_option maxHeartbeats 1000000 in
theorem WaitsOf_any (b : ByteArray) (A : Option Addr) (n c : Nat) (s : List OpV) (w : World) (hx : ROps w A n s) (hnc : n ≤ c) :
    Calls Try.prog 18 #[.string b, .slice A n c] w (RetInts w (waitsV b s)) := by
  have hro := runOf_any b A n c s w hx hnc
  have HRO := Lib.hid hro
  clear hx hro
  go_enter Try.func18, Try.ntmps18
  go_wp2_with fail
  refine HRO.out.mono ?_
  rintro e w1 ⟨hb, ⟨hno, rfl⟩ | ⟨r, R, tg, V, hok, hr, rfl, hA, hF, hN⟩⟩
  · have HO : Hid (RetInts w (waitsV b s) (.returned (.slice none 0 0)) w1) := by
      show RetInts _ _ _ _
      unfold waitsV
      rw [hno]
      exact RetInts.nil hb
    clear hno hb HRO
    go_wp2_with fail
    go_ret
    exact HO.out
  · have hlen := hF.lens (by omega)
    have hwf := waitsFor_run w.heap.size R tg (mannerV r) V (runD r s) w1 hA hF.val hF.comp (by omega)
    have hwv : waitsV b s = rowsI (waitsR (runD r s)) := by unfold waitsV; rw [hok, runDV_of hok hr]; rfl
    have HWF := Lib.hid hwf
    have HWV := Lib.hid hwv
    have HB := Lib.hid hb
    clear hwf hwv hb hlen hA hF hN hok hr HRO
    go_wp2_with fail
    refine HWF.out.mono ?_
    intro e w2 h
    have h2 := h.later HB.out
    rw [← HWV.out] at h2
    obtain ⟨A2, c2, rfl, hrest⟩ := h2
    have HR := Lib.hid hrest
    clear hrest h HWF
    go_wp2_with fail
    go_ret
    exact ⟨A2, c2, rfl, HR.out⟩
set_option maxRecDepth 100000 in
set_option maxHeartbeats 2000000 in
theorem RunLocks_any (b : ByteArray) (A : Option Addr) (n c : Nat) (s : List OpV) (w : World) (hx : ROps w A n s) (hnc : n ≤ c) :
    Calls Try.prog 11 #[.string b, .slice A n c] w (RetRun b s w) := by
  obtain ⟨W0, hW⟩ : ∃ W : World, W = w.alloc (.cells #[.slice none 0 0, .slice none 0 0, .slice none 0 0, .slice none 0 0] 28) := ⟨_, rfl⟩
  have hbW : Below w.heap.size w W0 := by rw [hW]; exact (Below.refl _ _).alloc (Nat.le_refl _) _
  have hbx : Boxed W0 w.heap.size DV.nil := by rw [hW]; exact Boxed.new w DV.nil
  have hro := runOf_any b A n c s W0 (hx.below hbW (Nat.le_refl _)) hnc
  have hsz : w.heap.size < W0.heap.size := hbx.lt
  have HRO := Lib.hid hro
  have HW := Lib.hid hW
  have HBX := Lib.hid hbx
  have HBW := Lib.hid hbW
  clear hx hro hW hbx hbW
  go_enter Try.func11, Try.ntmps11
  go_wp2_with fail
  rw [← HW.out]
  refine HRO.out.mono ?_
  rintro e w1 ⟨hb, ⟨hno, rfl⟩ | ⟨r, R, tg, V, hok, hr, rfl, hA, hF, hN⟩⟩
  · have hbx1 := HBX.out.below hb
    have hbw1 := HBW.out.trans (hb.mono (Nat.le_of_lt hsz))
    obtain ⟨p0, p1, p2, p3⟩ := hbx1.cells
    have s0 := hbx1.soft 0
    have s1 := hbx1.soft 1
    have s2 := hbx1.soft 2
    have s3 := hbx1.soft 3
    have hset := hbx1.set4 (.slice none 0 0) (.slice none 0 0) (.slice none 0 0) (.slice none 0 0)
    obtain ⟨d0, d1, d2, d3⟩ := hset.cells
    have hbS : Below w.heap.size w ((((w1.setCell ⟨w.heap.size, 0, none⟩ (.slice none 0 0)).setCell ⟨w.heap.size, 1, none⟩ (.slice none 0 0)).setCell ⟨w.heap.size, 2, none⟩ (.slice none 0 0)).setCell ⟨w.heap.size, 3, none⟩ (.slice none 0 0)) :=
      (((hbw1.setCell (p := ⟨w.heap.size, 0, none⟩) (Nat.le_refl _) _).setCell (p := ⟨w.heap.size, 1, none⟩) (Nat.le_refl _) _).setCell (p := ⟨w.heap.size, 2, none⟩) (Nat.le_refl _) _).setCell (p := ⟨w.heap.size, 3, none⟩) (Nat.le_refl _) _
    have HO : Hid (RetRun b s w (.returned (.tuple #[.agg #[.slice none 0 0, .slice none 0 0, .slice none 0 0, .slice none 0 0], .bool false])) ((((w1.setCell ⟨w.heap.size, 0, none⟩ (.slice none 0 0)).setCell ⟨w.heap.size, 1, none⟩ (.slice none 0 0)).setCell ⟨w.heap.size, 2, none⟩ (.slice none 0 0)).setCell ⟨w.heap.size, 3, none⟩ (.slice none 0 0))) := by
      refine ⟨hbS, _, by rw [hno], ?_⟩
      rw [runDV_no hno]
      exact DeskR.zero
    clear hno hb hbS hset hbx1 hbw1 HRO
    unfold DV.nil at p0 p1 p2 p3
    simp only at p0 p1 p2 p3
    go_wp2_with fail
    (try simp only [Exit.inBlock, Exit.then])
    refine bodyPost_ret (v := .tuple #[.agg #[.slice none 0 0, .slice none 0 0, .slice none 0 0, .slice none 0 0], .bool false]) (by simp [results, Try.results11, go_sem, d0, d1, d2, d3]) rfl ?_
    exact HO.out
  · obtain ⟨Ad, Aw, Al, Ak, nd, nw, nl, nk, cd, cw, cl, ck, rfl, ⟨k1, k2, k3, k4⟩, h1, h2, h3, h4⟩ := hA.forms
    have hlen := hF.lens (by omega)
    rw [h1, h2, h3, h4] at hlen
    obtain ⟨l1, l2, l3, l4⟩ := hlen
    have q1 := ClipOps_any Ad nd cd
    have q2 := ClipOps_any Aw nw cw
    have q3 := ClipSteps_any Al nl cl
    have q4 := ClipInts_any Ak nk ck
    obtain ⟨wd, hwd⟩ : ∃ wd : World, wd = w1.drew := ⟨_, rfl⟩
    have hbx1 := HBX.out.below hb
    have hbxd : Boxed wd w.heap.size DV.nil := by rw [hwd]; exact hbx1.drew
    have hbw1 := HBW.out.trans (hb.mono (Nat.le_of_lt hsz))
    have hbwd : Below w.heap.size w wd := by rw [hwd]; exact hbw1.drew
    have hAd : DeskAt wd W0.heap.size ⟨.slice Ad nd cd, .slice Aw nw cw, .slice Al nl cl, .slice Ak nk ck⟩ (runD r s) := by rw [hwd]; exact hA.desk.drew
    have hni : NotIn ⟨.slice Ad nd cd, .slice Aw nw cw, .slice Al nl cl, .slice Ak nk ck⟩ w.heap.size := hbxd.notIn hAd
    have hset := hbxd.set4 (.slice Ad nd nd) (.slice Aw nw nw) (.slice Al nl nl) (.slice Ak nk nk)
    obtain ⟨d0, d1, d2, d3⟩ := hset.cells
    simp only at d0 d1 d2 d3
    have s0 := hbxd.soft 0
    have s1 := hbxd.soft 1
    have s2 := hbxd.soft 2
    have s3 := hbxd.soft 3
    obtain ⟨p0, p1, p2, p3⟩ := hbxd.cells
    unfold DV.nil at p0 p1 p2 p3
    simp only at p0 p1 p2 p3
    have hbS : Below w.heap.size w ((((wd.setCell ⟨w.heap.size, 0, none⟩ (.slice Ad nd nd)).setCell ⟨w.heap.size, 1, none⟩ (.slice Aw nw nw)).setCell ⟨w.heap.size, 2, none⟩ (.slice Al nl nl)).setCell ⟨w.heap.size, 3, none⟩ (.slice Ak nk nk)) :=
      (((hbwd.setCell (p := ⟨w.heap.size, 0, none⟩) (Nat.le_refl _) _).setCell (p := ⟨w.heap.size, 1, none⟩) (Nat.le_refl _) _).setCell (p := ⟨w.heap.size, 2, none⟩) (Nat.le_refl _) _).setCell (p := ⟨w.heap.size, 3, none⟩) (Nat.le_refl _) _
    have HO : Hid (RetRun b s w (.returned (.tuple #[.agg #[.slice Ad nd nd, .slice Aw nw nw, .slice Al nl nl, .slice Ak nk nk], .bool true])) ((((wd.setCell ⟨w.heap.size, 0, none⟩ (.slice Ad nd nd)).setCell ⟨w.heap.size, 1, none⟩ (.slice Aw nw nw)).setCell ⟨w.heap.size, 2, none⟩ (.slice Al nl nl)).setCell ⟨w.heap.size, 3, none⟩ (.slice Ak nk nk))) := by
      refine ⟨hbS, _, by rw [hok], ?_⟩
      rw [runDV_of hok hr]
      exact desk_out (hAd.setAll hni _ _ _ _) (Nat.le_of_lt hsz) h1 h2 h3 h4 (by omega) (by omega) (by omega) (by omega)
    have Q1 : Hid (∀ W : World, Calls Try.prog 47 #[.slice Ad nd cd] W fun e w' => e = .returned (.slice Ad nd nd) ∧ w' = W) := fun W => (q1 W (by omega) k1).mono fun e w' h => ⟨h.1, h.2.symm⟩
    have Q2 : Hid (∀ W : World, Calls Try.prog 47 #[.slice Aw nw cw] W fun e w' => e = .returned (.slice Aw nw nw) ∧ w' = W) := fun W => (q2 W (by omega) k2).mono fun e w' h => ⟨h.1, h.2.symm⟩
    have Q3 : Hid (∀ W : World, Calls Try.prog 48 #[.slice Al nl cl] W fun e w' => e = .returned (.slice Al nl nl) ∧ w' = W) := fun W => (q3 W (by omega) k3).mono fun e w' h => ⟨h.1, h.2.symm⟩
    have Q4 : Hid (∀ W : World, Calls Try.prog 49 #[.slice Ak nk ck] W fun e w' => e = .returned (.slice Ak nk nk) ∧ w' = W) := fun W => (q4 W (by omega) k4).mono fun e w' h => ⟨h.1, h.2.symm⟩
    obtain ⟨r0, r1, r2, r3, _⟩ := hA.cells
    have HD := Lib.hid (And.intro d0 (And.intro d1 (And.intro d2 d3)))
    clear d0 d1 d2 d3
    clear q1 q2 q3 q4 hok hr hb hbS hset hbx1 hbxd hbw1 hbwd hAd hni hA hF hN h1 h2 h3 h4 HRO
    go_wp2_with fail
    refine wp_region_still_tail 25 (by kernel_rfl) (by kernel_rfl) ?_
    simp only [List.take_succ_cons, List.take_zero, List.drop_succ_cons, List.drop_zero]
    repeat (first | still_step | still_call (Q1.out _) | still_call (Q2.out _) | still_call (Q3.out _) | still_call (Q4.out _))
    refine wpStill_nil ?_
    change wpList _ _ _ _ _ w1.drew
    rw [← hwd]
    clear r0 r1 r2 r3 Q1 Q2 Q3 Q4 hwd
    go_wp2_with fail
    obtain ⟨d0, d1, d2, d3⟩ := HD.out
    (try simp only [Exit.inBlock, Exit.then])
    refine bodyPost_ret (v := .tuple #[.agg #[.slice Ad nd nd, .slice Aw nw nw, .slice Al nl nl, .slice Ak nk nk], .bool true]) (by simp [results, Try.results11, go_sem, d0, d1, d2, d3]) rfl ?_
    exact HO.out
end Go.Proofs.Ytncebpmckbcabaa
