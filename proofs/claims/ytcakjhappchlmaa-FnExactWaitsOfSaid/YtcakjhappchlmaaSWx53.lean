/-
  Texts that the proof rests on, joined: part 53.
-/
import Derived.Test.YtcakjhappchlmaaSWx19
import Derived.Test.YtcakjhappchlmaaSWx42
import Derived.Test.YtcakjhappchlmaaSWx48
import Derived.Test.YtcakjhappchlmaaSWx50
import Derived.Test.YtcakjhappchlmaaSWx51
import Derived.Test.YtcakjhappchlmaaSWx52
namespace Go.Proofs.Ytcakjhappchlmaa
open Go.RowKit Go.BigFrame
set_option linter.unusedVariables false

set_option maxRecDepth 100000 in
set_option maxHeartbeats 1000000 in
theorem isRule_any (b : ByteArray) (w : World) :
    Calls Try.prog 113 #[.string b] w fun e w' => e = .returned (.bool (rulOf b).isSome) ∧ w = w' := by
  have hu : rulOf b = if b = Rul.wait.str then some .wait else if b = Rul.die.str then some .die else if b = Rul.wound.str then some .wound else none := rfl
  by_cases h1 : b = Rul.wait.str
  · have hr : rulOf b = some .wait := by rw [hu, if_pos h1]
    rw [hr]
    subst h1
    unfold Rul.str
    simp only
    clear hu hr
    go_enter Try.func113, Try.ntmps113
    go_wp2_with fail
    go_ret
    exact ⟨rfl, rfl⟩
  · have b1 : (b.toList == [119, 97, 105, 116]) = false := str_beq h1
    by_cases h2 : b = Rul.die.str
    · have hr : rulOf b = some .die := by rw [hu, if_neg h1, if_pos h2]
      rw [hr]
      subst h2
      unfold Rul.str
      simp only
      clear hu hr h1 b1
      go_enter Try.func113, Try.ntmps113
      go_wp2_with fail
      go_ret
      exact ⟨rfl, rfl⟩
    · have b2 : (b.toList == [100, 105, 101]) = false := str_beq h2
      by_cases h3 : b = Rul.wound.str
      · have hr : rulOf b = some .wound := by rw [hu, if_neg h1, if_neg h2, if_pos h3]
        rw [hr]
        subst h3
        unfold Rul.str
        simp only
        clear hu hr h1 h2 b1 b2
        go_enter Try.func113, Try.ntmps113
        go_wp2_with fail
        go_ret
        exact ⟨rfl, rfl⟩
      · have b3 : (b.toList == [119, 111, 117, 110, 100]) = false := str_beq h3
        have hr : rulOf b = none := by rw [hu, if_neg h1, if_neg h2, if_neg h3]
        rw [hr]
        clear hu hr h1 h2 h3
        go_enter Try.func113, Try.ntmps113
        go_wp2_with fail
        go_ret
        exact ⟨rfl, rfl⟩
theorem rulOf_str {b : ByteArray} {r : Rul} (h : rulOf b = some r) : b = r.str := by
  unfold rulOf at h
  split at h
  · rename_i e; injection h with h; rw [← h]; exact e
  · split at h
    · rename_i e; injection h with h; rw [← h]; exact e
    · split at h
      · rename_i e; injection h with h; rw [← h]; exact e
      · cases h
theorem runLocks_rul {b : ByteArray} {r : Rul} (hr : rulOf b = some r) (A : Option Addr) (n c : Nat) (s : List OpV) (w : World) (hx : ROps w A n s) (hn : n ≤ 100) (hit : ItemsOk s) :
    Calls Try.prog 96 #[.string b, .slice A n c] w (RetDesk w (runD r s)) := by
  rw [rulOf_str hr]
  cases r
  · exact runLocks_wait A n c s w hx hn (fun N hN => resume_wait N hN)
  · exact runLocks_die A n c s w hx hn (fun N hN => resume_die N hN)
  · exact runLocks_wound A n c s w hx hn hit (fun N hN => resume_wound N hN)
/-- The call hands back integers: in the memory as it is then. -/
def HasInts (w : World) (xs : List Int) (e : Ending) (w' : World) : Prop := ∃ A n c, e = .returned (.slice A n c) ∧ RInts w' A n xs ∧ Below w.heap.size w w'
theorem runD_bnd {r : Rul} {s : List OpV} (hit : ItemsOk s) : Bnd (runD r s) (6 * s.length) := by
  have := (runD_facts (r := r) (s := s) (fun _ => hit) s.length).1
  rw [List.take_length] at this
  exact this
set_option maxRecDepth 100000 in
set_option maxHeartbeats 1000000 in
theorem sWaitsOf_any (b : ByteArray) (A : Option Addr) (n c : Nat) (s : List OpV) (w : World) (hx : ROps w A n s) (hnc : n ≤ c) :
    Calls Try.prog 53 #[.string b, .slice A n c] w (HasInts w (waitsV b s)) := by
  have hl := hx.1
  have hn := hx.2.1
  have hbW : Below w.heap.size w w := Below.refl _ _
  have hi := isRule_any b w
  have hv := svalid_any A n c s w (hx.below hbW (Nat.le_refl _))
  have HX := Lib.hid (hx.below hbW (Nat.le_refl _))
  have HBW := Lib.hid hbW
  obtain ⟨bv, hbv⟩ : ∃ z, validS s = z := ⟨_, rfl⟩
  have hok : runOk b s = ((rulOf b).isSome && (bv && decide (s.length ≤ 12))) := by unfold runOk; rw [hbv]
  rw [hbv] at hv
  have HV := Lib.hid hv
  have HBV := Lib.hid hbv
  have HL := Lib.hid hl
  clear hv hbv hx hbW hl
  cases hr : rulOf b with
  | none =>
    rw [hr] at hi hok
    simp only [Option.isSome] at hi
    have HI := Lib.hid hi
    have hno : runOk b s = false := by rw [hok]; rfl
    clear hi hok hr
    have HO : Hid (∀ w', Below w.heap.size w w' → HasInts w (waitsV b s) (.returned (.slice none 0 0)) w') := fun w' hb => by
      unfold waitsV
      rw [hno]
      exact ⟨none, 0, 0, rfl, RInts.nil, hb⟩
    clear hno
    go_enter Try.func53, Try.ntmps53
    go_wp2_with (go_at_call 113; go_loud (refine HI.out.mono ?_; rintro e w9 ⟨rfl, rfl⟩))
    go_ret
    exact HO.out _ (Below.refl _ _)
  | some r =>
    rw [hr] at hi hok
    simp only [Option.isSome] at hi
    have HI := Lib.hid hi
    have HR := Lib.hid hr
    clear hi hr
    cases bv
    · have hno : runOk b s = false := by rw [hok]; rfl
      clear hok
      have HO : Hid (∀ w', Below w.heap.size w w' → HasInts w (waitsV b s) (.returned (.slice none 0 0)) w') := fun w' hb => by
        unfold waitsV
        rw [hno]
        exact ⟨none, 0, 0, rfl, RInts.nil, hb⟩
      clear hno
      go_enter Try.func53, Try.ntmps53
      go_wp2_with (first | (go_at_call 113; go_loud (refine HI.out.mono ?_; rintro e w9 ⟨rfl, rfl⟩)) | (go_at_call 103; go_loud (refine HV.out.mono ?_; rintro e w1 ⟨rfl, hb1⟩)))
      go_ret
      exact HO.out _ hb1
    · by_cases hn12 : 12 < n
      · have hno : runOk b s = false := by rw [hok, show decide (s.length ≤ 12) = false by have := HL.out; simp; omega]; rfl
        clear hok
        have HO : Hid (∀ w', Below w.heap.size w w' → HasInts w (waitsV b s) (.returned (.slice none 0 0)) w') := fun w' hb => by
          unfold waitsV
          rw [hno]
          exact ⟨none, 0, 0, rfl, RInts.nil, hb⟩
        clear hno
        go_enter Try.func53, Try.ntmps53
        go_wp2_with (first | (go_at_call 113; go_loud (refine HI.out.mono ?_; rintro e w9 ⟨rfl, rfl⟩)) | (go_at_call 103; go_loud (refine HV.out.mono ?_; rintro e w1 ⟨rfl, hb1⟩)))
        go_ret
        exact HO.out _ hb1
      · have hyes : runOk b s = true := by rw [hok, show decide (s.length ≤ 12) = true by have := HL.out; simp; omega]; rfl
        have hit : ItemsOk s := items_valid ((validS_iff s).1 HBV.out).2.1
        have hrl : ∀ W, Below w.heap.size w W → Calls Try.prog 96 #[.string b, .slice A n c] W (RetDesk W (runD r s)) := fun W hW => runLocks_rul HR.out A n c s W (HX.out.below hW (Nat.le_refl _)) (by omega) hit
        have hbn := runD_bnd (r := r) hit
        have hdv := runDV_of hyes HR.out
        have HRL := Lib.hid hrl
        have HBN := Lib.hid hbn
        have HDV := Lib.hid hdv
        have HY := Lib.hid hyes
        clear hok hyes hit hrl hbn hdv
        go_enter Try.func53, Try.ntmps53
        go_wp2_with fail
        refine HI.out.mono ?_
        rintro e w9 ⟨rfl, rfl⟩
        go_wp2_with fail
        refine HV.out.mono ?_
        rintro e w1 ⟨rfl, hb1⟩
        go_wp2_with fail
        refine (HRL.out _ hb1).mono ?_
        rintro e w2 ⟨V, rfl, hD, hb2⟩
        have hwv : waitsV b s = rowsI (waitsR (runD r s)) := by unfold waitsV; rw [HY.out, HDV.out]; rfl
        have h1 := HBN.out.done
        have h2 := HBN.out.locks
        have h3 := HBN.out.wait
        have hll := HL.out
        have hwt := waits_any w1.heap.size V (runD r s) w2 hD (by omega) (by omega)
        have HB := Lib.hid (hb1.trans (hb2.mono hb1.size))
        have HWV := Lib.hid hwv
        have HWT := Lib.hid hwt
        clear hwv h1 h2 h3 hll hwt hD hb1 hb2
        go_wp2_with fail
        refine HWT.out.mono ?_
        rintro e w3 ⟨G, gc, rfl, hR, hb3⟩
        have HO : Hid (HasInts w (waitsV b s) (.returned (.slice G 4 gc)) w3) := ⟨G, 4, gc, rfl, by rw [HWV.out]; exact hR, HB.out.trans (hb3.mono HB.out.size)⟩
        clear hR hb3
        go_wp2_with fail
        go_ret
        exact HO.out
end Go.Proofs.Ytcakjhappchlmaa
