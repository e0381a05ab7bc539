/-
  Texts that the proof rests on, joined: part 44.
-/
import Derived.Test.YtncebpmckbcabaaSJ15
import Derived.Test.YtncebpmckbcabaaSJ34
import Derived.Test.YtncebpmckbcabaaSJ38
import Derived.Test.YtncebpmckbcabaaSJ41
import Derived.Test.YtncebpmckbcabaaSJ42
import Derived.Test.YtncebpmckbcabaaSJ43
namespace Go.Proofs.Ytncebpmckbcabaa
open Go.RowKit Go.BigFrame
set_option linter.unusedVariables false

set_option maxRecDepth 100000 in
set_option maxHeartbeats 1000000 in
theorem isRule_any (b : ByteArray) (w : World) :
    Calls Try.prog 42 #[.string b] w fun e w' => e = .returned (.bool (rulOf b).isSome) ∧ w = w' := by
  have hu : rulOf b = if b = Rul.wait.str then some .wait else if b = Rul.die.str then some .die else if b = Rul.wound.str then some .wound else none := rfl
  by_cases h1 : b = Rul.wait.str
  · have hr : rulOf b = some .wait := by rw [hu, if_pos h1]
    rw [hr]
    subst h1
    unfold Rul.str
    simp only
    clear hu hr
    go_enter Try.func42, Try.ntmps42
    go_wp2_with fail
    go_ret
    exact ⟨rfl, rfl⟩
  · have b1 : (b.toList == [119, 97, 105, 116]) = false := str_beq h1
    by_cases h2 : b = Rul.die.str
    · have hr : rulOf b = some .die := by rw [hu, if_neg h1, if_pos h2]
      rw [hr]
      subst h2
      unfold Rul.str
      simp only
      clear hu hr h1 b1
      go_enter Try.func42, Try.ntmps42
      go_wp2_with fail
      go_ret
      exact ⟨rfl, rfl⟩
    · have b2 : (b.toList == [100, 105, 101]) = false := str_beq h2
      by_cases h3 : b = Rul.wound.str
      · have hr : rulOf b = some .wound := by rw [hu, if_neg h1, if_neg h2, if_pos h3]
        rw [hr]
        subst h3
        unfold Rul.str
        simp only
        clear hu hr h1 h2 b1 b2
        go_enter Try.func42, Try.ntmps42
        go_wp2_with fail
        go_ret
        exact ⟨rfl, rfl⟩
      · have b3 : (b.toList == [119, 111, 117, 110, 100]) = false := str_beq h3
        have hr : rulOf b = none := by rw [hu, if_neg h1, if_neg h2, if_neg h3]
        rw [hr]
        clear hu hr h1 h2 h3
        go_enter Try.func42, Try.ntmps42
        go_wp2_with fail
        go_ret
        exact ⟨rfl, rfl⟩
theorem rulOf_str {b : ByteArray} {r : Rul} (h : rulOf b = some r) : b = r.str := by
  unfold rulOf at h
  split at h
  · rename_i e; injection h with h; rw [← h]; exact e
  · split at h
    · rename_i e; injection h with h; rw [← h]; exact e
    · split at h
      · rename_i e; injection h with h; rw [← h]; exact e
      · cases h
theorem runLocks_rul {b : ByteArray} {r : Rul} (hr : rulOf b = some r) (A : Option Addr) (n c : Nat) (s : List OpV) (w : World) (hx : ROps w A n s) (hn : n ≤ 100) (hit : ItemsOk s) :
    Calls Try.prog 44 #[.string b, .slice A n c] w (RetDesk w (runD r s)) := by
  rw [rulOf_str hr]
  cases r
  · exact runLocks_wait A n c s w hx hn (fun N hN => resume_wait N hN)
  · exact runLocks_die A n c s w hx hn (fun N hN => resume_die N hN)
  · exact runLocks_wound A n c s w hx hn hit (fun N hN => resume_wound N hN)
/-- The call hands back integers: in the memory as it is then. -/
def HasInts (w : World) (xs : List Int) (e : Ending) (w' : World) : Prop := ∃ A n c, e = .returned (.slice A n c) ∧ RInts w' A n xs ∧ Below w.heap.size w w'
def RetRunS (b : ByteArray) (s : List OpV) (w : World) (e : Ending) (w' : World) : Prop :=
  Below w.heap.size w w' ∧ ∃ V : DV, e = .returned (.tuple #[V.val, .bool (runOk b s)]) ∧ DeskAt w' w.heap.size V (runDV b s)
theorem runD_bnd {r : Rul} {s : List OpV} (hit : ItemsOk s) : Bnd (runD r s) (6 * s.length) := by
  have := (runD_facts (r := r) (s := s) (fun _ => hit) s.length).1
  rw [List.take_length] at this
  exact this
theorem DeskAt.low' {w : World} {B B' : Nat} {V : DV} {D : Dsk} (h : DeskAt w B V D) (hB : B' ≤ B) : DeskAt w B' V D := ⟨Nat.le_trans hB h.base, own_base h.done hB, own_base h.wait hB, own_base h.locks hB, own_base h.dead hB, h.sep⟩
set_option maxRecDepth 100000 in
set_option maxHeartbeats 1000000 in
theorem sWaitsOf_any (b : ByteArray) (A : Option Addr) (n c : Nat) (s : List OpV) (w : World) (hx : ROps w A n s) (hnc : n ≤ c) :
    Calls Try.prog 20 #[.string b, .slice A n c] w (HasInts w (waitsV b s)) := by
  have hl := hx.1
  have hn := hx.2.1
  have hbW : Below w.heap.size w w := Below.refl _ _
  have hi := isRule_any b w
  have hv := svalid_any A n c s w (hx.below hbW (Nat.le_refl _))
  have HX := Lib.hid (hx.below hbW (Nat.le_refl _))
  have HBW := Lib.hid hbW
  obtain ⟨bv, hbv⟩ : ∃ z, validS s = z := ⟨_, rfl⟩
  have hok : runOk b s = ((rulOf b).isSome && (bv && decide (s.length ≤ 12))) := by unfold runOk; rw [hbv]
  rw [hbv] at hv
  have HV := Lib.hid hv
  have HBV := Lib.hid hbv
  have HL := Lib.hid hl
  clear hv hbv hx hbW hl
  cases hr : rulOf b with
  | none =>
    rw [hr] at hi hok
    simp only [Option.isSome] at hi
    have HI := Lib.hid hi
    have hno : runOk b s = false := by rw [hok]; rfl
    clear hi hok hr
    have HO : Hid (∀ w', Below w.heap.size w w' → HasInts w (waitsV b s) (.returned (.slice none 0 0)) w') := fun w' hb => by
      unfold waitsV
      rw [hno]
      exact ⟨none, 0, 0, rfl, RInts.nil, hb⟩
    clear hno
    go_enter Try.func20, Try.ntmps20
    go_wp2_with (go_at_call 42; go_loud (refine HI.out.mono ?_; rintro e w9 ⟨rfl, rfl⟩))
    go_ret
    exact HO.out _ (Below.refl _ _)
  | some r =>
    rw [hr] at hi hok
    simp only [Option.isSome] at hi
    have HI := Lib.hid hi
    have HR := Lib.hid hr
    clear hi hr
    cases bv
    · have hno : runOk b s = false := by rw [hok]; rfl
      clear hok
      have HO : Hid (∀ w', Below w.heap.size w w' → HasInts w (waitsV b s) (.returned (.slice none 0 0)) w') := fun w' hb => by
        unfold waitsV
        rw [hno]
        exact ⟨none, 0, 0, rfl, RInts.nil, hb⟩
      clear hno
      go_enter Try.func20, Try.ntmps20
      go_wp2_with (first | (go_at_call 42; go_loud (refine HI.out.mono ?_; rintro e w9 ⟨rfl, rfl⟩)) | (go_at_call 43; go_loud (refine HV.out.mono ?_; rintro e w1 ⟨rfl, hb1⟩)))
      go_ret
      exact HO.out _ hb1
    · by_cases hn12 : 12 < n
      · have hno : runOk b s = false := by rw [hok, show decide (s.length ≤ 12) = false by have := HL.out; simp; omega]; rfl
        clear hok
        have HO : Hid (∀ w', Below w.heap.size w w' → HasInts w (waitsV b s) (.returned (.slice none 0 0)) w') := fun w' hb => by
          unfold waitsV
          rw [hno]
          exact ⟨none, 0, 0, rfl, RInts.nil, hb⟩
        clear hno
        go_enter Try.func20, Try.ntmps20
        go_wp2_with (first | (go_at_call 42; go_loud (refine HI.out.mono ?_; rintro e w9 ⟨rfl, rfl⟩)) | (go_at_call 43; go_loud (refine HV.out.mono ?_; rintro e w1 ⟨rfl, hb1⟩)))
        go_ret
        exact HO.out _ hb1
      · have hyes : runOk b s = true := by rw [hok, show decide (s.length ≤ 12) = true by have := HL.out; simp; omega]; rfl
        have hit : ItemsOk s := items_valid ((validS_iff s).1 HBV.out).2.1
        have hrl : ∀ W, Below w.heap.size w W → Calls Try.prog 44 #[.string b, .slice A n c] W (RetDesk W (runD r s)) := fun W hW => runLocks_rul HR.out A n c s W (HX.out.below hW (Nat.le_refl _)) (by omega) hit
        have hbn := runD_bnd (r := r) hit
        have hdv := runDV_of hyes HR.out
        have HRL := Lib.hid hrl
        have HBN := Lib.hid hbn
        have HDV := Lib.hid hdv
        have HY := Lib.hid hyes
        clear hok hyes hit hrl hbn hdv
        go_enter Try.func20, Try.ntmps20
        go_wp2_with fail
        refine HI.out.mono ?_
        rintro e w9 ⟨rfl, rfl⟩
        go_wp2_with fail
        refine HV.out.mono ?_
        rintro e w1 ⟨rfl, hb1⟩
        go_wp2_with fail
        refine (HRL.out _ hb1).mono ?_
        rintro e w2 ⟨V, rfl, hD, hb2⟩
        have hwv : waitsV b s = rowsI (waitsR (runD r s)) := by unfold waitsV; rw [HY.out, HDV.out]; rfl
        have h1 := HBN.out.done
        have h2 := HBN.out.locks
        have h3 := HBN.out.wait
        have hll := HL.out
        have hwt := waits_any w1.heap.size V (runD r s) w2 hD (by omega) (by omega)
        have HB := Lib.hid (hb1.trans (hb2.mono hb1.size))
        have HWV := Lib.hid hwv
        have HWT := Lib.hid hwt
        clear hwv h1 h2 h3 hll hwt hD hb1 hb2
        go_wp2_with fail
        refine HWT.out.mono ?_
        rintro e w3 ⟨G, gc, rfl, hR, hb3⟩
        have HO : Hid (HasInts w (waitsV b s) (.returned (.slice G 4 gc)) w3) := ⟨G, 4, gc, rfl, by rw [HWV.out]; exact hR, HB.out.trans (hb3.mono HB.out.size)⟩
        clear hR hb3
        go_wp2_with fail
        go_ret
        exact HO.out
set_option maxRecDepth 100000 in
set_option maxHeartbeats 1000000 in
theorem sRunLocks_any (b : ByteArray) (A : Option Addr) (n c : Nat) (s : List OpV) (w : World) (hx : ROps w A n s) (hnc : n ≤ c) :
    Calls Try.prog 9 #[.string b, .slice A n c] w (RetRunS b s w) := by
  have hl := hx.1
  have hn := hx.2.1
  obtain ⟨W0, hW⟩ : ∃ W : World, W = w.alloc (.cells #[.slice none 0 0, .slice none 0 0, .slice none 0 0, .slice none 0 0] 28) := ⟨_, rfl⟩
  have hbW : Below w.heap.size w W0 := by rw [hW]; exact (Below.refl _ _).alloc (Nat.le_refl _) _
  have hbx : Boxed W0 w.heap.size DV.nil := by rw [hW]; exact Boxed.new w DV.nil
  have hsz : w.heap.size < W0.heap.size := hbx.lt
  have HBX := Lib.hid hbx
  have hi := isRule_any b W0
  have hv := svalid_any A n c s W0 (hx.below hbW (Nat.le_refl _))
  have HX := Lib.hid (hx.below hbW (Nat.le_refl _))
  have HW := Lib.hid hW
  have HBW := Lib.hid hbW
  obtain ⟨bv, hbv⟩ : ∃ z, validS s = z := ⟨_, rfl⟩
  have hok : runOk b s = ((rulOf b).isSome && (bv && decide (s.length ≤ 12))) := by unfold runOk; rw [hbv]
  rw [hbv] at hv
  have HV := Lib.hid hv
  have HBV := Lib.hid hbv
  have HL := Lib.hid hl
  clear hv hbv hx hW hbW hl
  clear hbx
  cases hr : rulOf b with
  | none =>
    rw [hr] at hi hok
    simp only [Option.isSome] at hi
    have HI := Lib.hid hi
    have hno : runOk b s = false := by rw [hok]; rfl
    clear hi hok hr
    have HO : Hid (∀ w', Below w.heap.size w w' → RetRunS b s w (.returned (.tuple #[.agg #[.slice none 0 0, .slice none 0 0, .slice none 0 0, .slice none 0 0], .bool false])) w') := fun w' hb => by
      refine ⟨hb, DV.nil, by rw [hno]; rfl, ?_⟩
      rw [runDV_no hno]
      exact DeskAt.zero w' hb.size
    clear hno
    go_enter Try.func9, Try.ntmps9
    go_wp2_with fail
    rw [← HW.out]
    have hbx1 := HBX.out; obtain ⟨p0, p1, p2, p3⟩ := hbx1.cells; have s0 := hbx1.soft 0; have s1 := hbx1.soft 1; have s2 := hbx1.soft 2; have s3 := hbx1.soft 3; unfold DV.nil at p0 p1 p2 p3; simp only at p0 p1 p2 p3; have hset := hbx1.set4 (.slice none 0 0) (.slice none 0 0) (.slice none 0 0) (.slice none 0 0); have HSET := Lib.hid hset; clear hset hbx1
    refine HI.out.mono ?_
    rintro e w9 ⟨rfl, rfl⟩
    go_wp2_with fail
    (try simp only [Exit.inBlock, Exit.then])
    obtain ⟨d0, d1, d2, d3⟩ := HSET.out.cells
    simp only at d0 d1 d2 d3
    refine bodyPost_ret (v := .tuple #[.agg #[.slice none 0 0, .slice none 0 0, .slice none 0 0, .slice none 0 0], .bool false]) (by simp [results, Try.results9, go_sem, d0, d1, d2, d3]) rfl ?_
    exact HO.out _ (((((HBW.out).setCell (p := ⟨w.heap.size, 0, none⟩) (Nat.le_refl _) _).setCell (p := ⟨w.heap.size, 1, none⟩) (Nat.le_refl _) _).setCell (p := ⟨w.heap.size, 2, none⟩) (Nat.le_refl _) _).setCell (p := ⟨w.heap.size, 3, none⟩) (Nat.le_refl _) _)
  | some r =>
    rw [hr] at hi hok
    simp only [Option.isSome] at hi
    have HI := Lib.hid hi
    have HR := Lib.hid hr
    clear hi hr
    cases bv
    · have hno : runOk b s = false := by rw [hok]; rfl
      clear hok
      have HO : Hid (∀ w', Below w.heap.size w w' → RetRunS b s w (.returned (.tuple #[.agg #[.slice none 0 0, .slice none 0 0, .slice none 0 0, .slice none 0 0], .bool false])) w') := fun w' hb => by
        refine ⟨hb, DV.nil, by rw [hno]; rfl, ?_⟩
        rw [runDV_no hno]
        exact DeskAt.zero w' hb.size
      clear hno
      go_enter Try.func9, Try.ntmps9
      go_wp2_with fail
      rw [← HW.out]
      refine HI.out.mono ?_
      rintro e w9 ⟨rfl, rfl⟩
      go_wp2_with fail
      refine HV.out.mono ?_
      rintro e w1 ⟨rfl, hb1⟩
      have hbx1 := HBX.out.below hb1; obtain ⟨p0, p1, p2, p3⟩ := hbx1.cells; have s0 := hbx1.soft 0; have s1 := hbx1.soft 1; have s2 := hbx1.soft 2; have s3 := hbx1.soft 3; unfold DV.nil at p0 p1 p2 p3; simp only at p0 p1 p2 p3; have hset := hbx1.set4 (.slice none 0 0) (.slice none 0 0) (.slice none 0 0) (.slice none 0 0); have HSET := Lib.hid hset; clear hset hbx1
      go_wp2_with fail
      (try simp only [Exit.inBlock, Exit.then])
      obtain ⟨d0, d1, d2, d3⟩ := HSET.out.cells
      simp only at d0 d1 d2 d3
      refine bodyPost_ret (v := .tuple #[.agg #[.slice none 0 0, .slice none 0 0, .slice none 0 0, .slice none 0 0], .bool false]) (by simp [results, Try.results9, go_sem, d0, d1, d2, d3]) rfl ?_
      exact HO.out _ (((((HBW.out.trans (hb1.mono (Nat.le_of_lt hsz))).setCell (p := ⟨w.heap.size, 0, none⟩) (Nat.le_refl _) _).setCell (p := ⟨w.heap.size, 1, none⟩) (Nat.le_refl _) _).setCell (p := ⟨w.heap.size, 2, none⟩) (Nat.le_refl _) _).setCell (p := ⟨w.heap.size, 3, none⟩) (Nat.le_refl _) _)
    · by_cases hn12 : 12 < n
      · have hno : runOk b s = false := by rw [hok, show decide (s.length ≤ 12) = false by have := HL.out; simp; omega]; rfl
        clear hok
        have HO : Hid (∀ w', Below w.heap.size w w' → RetRunS b s w (.returned (.tuple #[.agg #[.slice none 0 0, .slice none 0 0, .slice none 0 0, .slice none 0 0], .bool false])) w') := fun w' hb => by
          refine ⟨hb, DV.nil, by rw [hno]; rfl, ?_⟩
          rw [runDV_no hno]
          exact DeskAt.zero w' hb.size
        clear hno
        go_enter Try.func9, Try.ntmps9
        go_wp2_with fail
        rw [← HW.out]
        refine HI.out.mono ?_
        rintro e w9 ⟨rfl, rfl⟩
        go_wp2_with fail
        refine HV.out.mono ?_
        rintro e w1 ⟨rfl, hb1⟩
        have hbx1 := HBX.out.below hb1; obtain ⟨p0, p1, p2, p3⟩ := hbx1.cells; have s0 := hbx1.soft 0; have s1 := hbx1.soft 1; have s2 := hbx1.soft 2; have s3 := hbx1.soft 3; unfold DV.nil at p0 p1 p2 p3; simp only at p0 p1 p2 p3; have hset := hbx1.set4 (.slice none 0 0) (.slice none 0 0) (.slice none 0 0) (.slice none 0 0); have HSET := Lib.hid hset; clear hset hbx1
        go_wp2_with fail
        (try simp only [Exit.inBlock, Exit.then])
        obtain ⟨d0, d1, d2, d3⟩ := HSET.out.cells
        simp only at d0 d1 d2 d3
        refine bodyPost_ret (v := .tuple #[.agg #[.slice none 0 0, .slice none 0 0, .slice none 0 0, .slice none 0 0], .bool false]) (by simp [results, Try.results9, go_sem, d0, d1, d2, d3]) rfl ?_
        exact HO.out _ (((((HBW.out.trans (hb1.mono (Nat.le_of_lt hsz))).setCell (p := ⟨w.heap.size, 0, none⟩) (Nat.le_refl _) _).setCell (p := ⟨w.heap.size, 1, none⟩) (Nat.le_refl _) _).setCell (p := ⟨w.heap.size, 2, none⟩) (Nat.le_refl _) _).setCell (p := ⟨w.heap.size, 3, none⟩) (Nat.le_refl _) _)
      · have hyes : runOk b s = true := by rw [hok, show decide (s.length ≤ 12) = true by have := HL.out; simp; omega]; rfl
        have hit : ItemsOk s := items_valid ((validS_iff s).1 HBV.out).2.1
        have hrl : ∀ W, Below W0.heap.size W0 W → Calls Try.prog 44 #[.string b, .slice A n c] W (RetDesk W (runD r s)) := fun W hW => runLocks_rul HR.out A n c s W (HX.out.below hW (Nat.le_refl _)) (by omega) hit
        have hbn := runD_bnd (r := r) hit
        have hdv := runDV_of hyes HR.out
        have HRL := Lib.hid hrl
        have HBN := Lib.hid hbn
        have HDV := Lib.hid hdv
        have HY := Lib.hid hyes
        clear hok hyes hit hrl hbn hdv
        go_enter Try.func9, Try.ntmps9
        go_wp2_with fail
        rw [← HW.out]
        refine HI.out.mono ?_
        rintro e w9 ⟨rfl, rfl⟩
        go_wp2_with fail
        refine HV.out.mono ?_
        rintro e w1 ⟨rfl, hb1⟩
        go_wp2_with fail
        refine (HRL.out _ hb1).mono ?_
        rintro e w2 ⟨V, rfl, hD, hb2⟩
        have hsb := hb1.size
        obtain ⟨Ad, Aw, Al, Ak, nd, nw, nl, nk, cd, cw, cl, ck, rfl, hcs, h1, h2, h3, h4⟩ := hD.forms
        have hbx1 := (HBX.out.below hb1).below hb2
        obtain ⟨p0, p1, p2, p3⟩ := hbx1.cells
        have s0 := hbx1.soft 0
        have s1 := hbx1.soft 1
        have s2 := hbx1.soft 2
        have s3 := hbx1.soft 3
        unfold DV.nil at p0 p1 p2 p3
        simp only at p0 p1 p2 p3
        have hset := hbx1.set4 (.slice Ad nd cd) (.slice Aw nw cw) (.slice Al nl cl) (.slice Ak nk ck)
        have HSET := Lib.hid hset
        have hds := (hD.setAll (hbx1.notIn hD) (.slice Ad nd cd) (.slice Aw nw cw) (.slice Al nl cl) (.slice Ak nk ck)).low' (show w.heap.size ≤ w1.heap.size by omega)
        have HD := Lib.hid hds
        have HB := Lib.hid (HBW.out.trans ((hb1.trans (hb2.mono hsb)).mono (Nat.le_of_lt hsz)))
        clear hset hbx1 hds hD hb1 hb2 hcs h1 h2 h3 h4
        unfold DV.val
        simp only
        go_wp2_with fail
        (try simp only [Exit.inBlock, Exit.then])
        obtain ⟨d0, d1, d2, d3⟩ := HSET.out.cells
        simp only at d0 d1 d2 d3
        refine bodyPost_ret (v := .tuple #[.agg #[.slice Ad nd cd, .slice Aw nw cw, .slice Al nl cl, .slice Ak nk ck], .bool true]) (by simp [results, Try.results9, go_sem, d0, d1, d2, d3]) rfl ?_
        refine ⟨((((HB.out).setCell (p := ⟨w.heap.size, 0, none⟩) (Nat.le_refl _) _).setCell (p := ⟨w.heap.size, 1, none⟩) (Nat.le_refl _) _).setCell (p := ⟨w.heap.size, 2, none⟩) (Nat.le_refl _) _).setCell (p := ⟨w.heap.size, 3, none⟩) (Nat.le_refl _) _, ⟨.slice Ad nd cd, .slice Aw nw cw, .slice Al nl cl, .slice Ak nk ck⟩, by rw [HY.out]; rfl, ?_⟩
        rw [HDV.out]
        exact HD.out
end Go.Proofs.Ytncebpmckbcabaa
