/-
  Texts that the proof rests on, joined: part 45.
-/
import Derived.Test.YtcakjhappchlmaaSWx43
import Derived.Test.YtcakjhappchlmaaSWx44
namespace Go.Proofs.Ytcakjhappchlmaa
open Go.RowKit Go.BigFrame
set_option linter.unusedVariables false

/-- The rule of a name. -/
def rulOf (b : ByteArray) : Option Rul := if b = Rul.wait.str then some .wait else if b = Rul.die.str then some .die else if b = Rul.wound.str then some .wound else none
def manV : Option Rul → Value
  | some r => mannerV r
  | none => .nilIface
theorem str_beq {b c : ByteArray} (h : b ≠ c) : (b.toList == c.data.toList) = false := by
  rw [beq_eq_false_iff_ne]
  intro e
  exact h (ByteArray.ext (Array.ext' (by rw [← ByteArray.toList_eq, e])))
set_option maxRecDepth 100000 in
set_option maxHeartbeats 1000000 in
theorem mannerOf_any (b : ByteArray) (w : World) :
    Calls Try.prog 143 #[.string b] w fun e w' => e = .returned (.tuple #[manV (rulOf b), .bool (rulOf b).isSome]) ∧ w = w' := by
  have hu : rulOf b = if b = Rul.wait.str then some .wait else if b = Rul.die.str then some .die else if b = Rul.wound.str then some .wound else none := rfl
  by_cases h1 : b = Rul.wait.str
  · have hr : rulOf b = some .wait := by rw [hu, if_pos h1]
    rw [hr]
    subst h1
    unfold Rul.str
    simp only
    clear hu hr
    go_enter Try.func143, Try.ntmps143
    go_wp2_with fail
    go_ret2
    exact ⟨rfl, rfl⟩
  · have b1 : (b.toList == [119, 97, 105, 116]) = false := str_beq h1
    by_cases h2 : b = Rul.die.str
    · have hr : rulOf b = some .die := by rw [hu, if_neg h1, if_pos h2]
      rw [hr]
      subst h2
      unfold Rul.str
      simp only
      clear hu hr h1 b1
      go_enter Try.func143, Try.ntmps143
      go_wp2_with fail
      go_ret2
      exact ⟨rfl, rfl⟩
    · have b2 : (b.toList == [100, 105, 101]) = false := str_beq h2
      by_cases h3 : b = Rul.wound.str
      · have hr : rulOf b = some .wound := by rw [hu, if_neg h1, if_neg h2, if_pos h3]
        rw [hr]
        subst h3
        unfold Rul.str
        simp only
        clear hu hr h1 h2 b1 b2
        go_enter Try.func143, Try.ntmps143
        go_wp2_with fail
        go_ret2
        exact ⟨rfl, rfl⟩
      · have b3 : (b.toList == [119, 111, 117, 110, 100]) = false := str_beq h3
        have hr : rulOf b = none := by rw [hu, if_neg h1, if_neg h2, if_neg h3]
        rw [hr]
        clear hu hr h1 h2 h3
        go_enter Try.func143, Try.ntmps143
        go_wp2_with fail
        go_ret2
        exact ⟨rfl, rfl⟩
/-- A run may be made. -/
def runOk (b : ByteArray) (s : List OpV) : Bool := (rulOf b).isSome && (validS s && decide (s.length ≤ 12))
/-- What runOf hands back. -/
def RunPost (b : ByteArray) (s : List OpV) (w : World) (e : Ending) (w' : World) : Prop :=
  Below w.heap.size w w' ∧ ((runOk b s = false ∧ e = .returned (.tuple #[.pointer none, .bool false])) ∨
    ∃ (r : Rul) (R tg : Nat) (V : DV), runOk b s = true ∧ rulOf b = some r ∧ e = .returned (.tuple #[.pointer (some ⟨R, 0, none⟩), .bool true]) ∧ RunAt w' w.heap.size R tg (mannerV r) V (runD r s) ∧ Fair 72 (runD r s) ∧ nextD r (runD r s) = none)
theorem next_zero (r : Rul) : nextD r Dsk.zero = none := by
  have h0 : ∀ p : Nat → Bool, ∀ j, j < Dsk.zero.wait.length → p j = false := fun p j hj => by cases hj
  cases r
  · exact next_wait_no (h0 _) (by decide)
  · exact next_die_no (h0 _) (h0 _)
  · exact next_wound_no (h0 _) (h0 _)
theorem fair_zero : Fair 0 Dsk.zero := ⟨fun o h => (by cases h), fun t u x _ h1 => (by have : heldI [] t x = -1 := rfl; simp only [Dsk.zero] at h1; omega), ⟨by decide, by decide, by decide⟩⟩
theorem run_zero {w w1 wt : World} {tg : Nat} {m : Value} (hb1 : Below w.heap.size w w1) (hT : TblAt wt tg []) (htg : w1.heap.size ≤ tg) (hbt : Below w1.heap.size w1 wt) :
    RunAt (wt.alloc (.cells #[.slice none 0 0, .slice none 0 0, .slice none 0 0, .slice none 0 0, .pointer (some ⟨tg, 0, none⟩), m] 115)) w.heap.size wt.heap.size tg m DV.nil Dsk.zero ∧ Below w.heap.size w (wt.alloc (.cells #[.slice none 0 0, .slice none 0 0, .slice none 0 0, .slice none 0 0, .pointer (some ⟨tg, 0, none⟩), m] 115)) := by
  have s1 := hb1.size
  have s2 := hbt.size
  have hb := hb1.trans (hbt.mono s1)
  have hba : Below wt.heap.size wt (wt.alloc (.cells #[.slice none 0 0, .slice none 0 0, .slice none 0 0, .slice none 0 0, .pointer (some ⟨tg, 0, none⟩), m] 115)) := (Below.refl _ _).alloc (Nat.le_refl _) _
  exact ⟨⟨heap_alloc_new wt _, DeskAt.zero _ (by simp; omega), hT.below hba, fun s hs => (by cases hs), by omega, by omega⟩, hb.alloc hb.size _⟩
set_option maxRecDepth 100000 in
set_option maxHeartbeats 4000000 in
theorem runOf_any (b : ByteArray) (A : Option Addr) (n c : Nat) (s : List OpV) (w : World) (hx : ROps w A n s) (hnc : n ≤ c) :
    Calls Try.prog 111 #[.string b, .slice A n c] w (RunPost b s w) := by
  have hn := hx.2.1
  have hl := hx.1
  have HX := Lib.hid hx
  have HL := Lib.hid hl
  have hm := mannerOf_any b w
  have hra := runnableL_any A n c s w hx hnc
  obtain ⟨bv, hbv⟩ : ∃ z, (validS s && decide (s.length ≤ 12)) = z := ⟨_, rfl⟩
  have hok : runOk b s = ((rulOf b).isSome && bv) := by unfold runOk; rw [hbv]
  rw [hbv] at hra
  have HBV := Lib.hid hbv
  have HRA := Lib.hid hra
  clear hx hl hra hbv
  cases hr : rulOf b with
  | none =>
    rw [hr] at hm hok
    have HO : Hid (∀ w', Below w.heap.size w w' → RunPost b s w (.returned (.tuple #[.pointer none, .bool false])) w') := fun w' hb => ⟨hb, .inl ⟨hok, rfl⟩⟩
    have HM := Lib.hid hm
    clear hm hok hr
    unfold manV at HM
    simp only [Option.isSome] at HM
    go_enter Try.func111, Try.ntmps111
    go_wp2_with (go_at_call 143; go_loud (refine HM.out.mono ?_; rintro e w0 ⟨rfl, rfl⟩))
    go_ret2
    exact HO.out _ (Below.refl _ _)
  | some r =>
    rw [hr] at hm hok
    unfold manV at hm
    simp only [Option.isSome] at hm
    obtain ⟨mt, hM⟩ : ∃ mt, mannerV r = .iface mt (.agg #[]) := by cases r <;> exact ⟨_, rfl⟩
    rw [hM] at hm
    have HMV := Lib.hid hM
    have HM := Lib.hid hm
    have HR := Lib.hid hr
    clear hm hr hM
    cases bv
    · have HO : Hid (∀ w', Below w.heap.size w w' → RunPost b s w (.returned (.tuple #[.pointer none, .bool false])) w') := fun w' hb => ⟨hb, .inl ⟨by rw [hok]; simp, rfl⟩⟩
      clear hok
      go_enter Try.func111, Try.ntmps111
      go_wp2_with (first
        | (go_at_call 143; go_loud (refine HM.out.mono ?_; rintro e w0 ⟨rfl, rfl⟩))
        | (go_at_call 100; go_loud (refine HRA.out.mono ?_; rintro e w1 ⟨rfl, hb1⟩)))
      go_ret2
      exact HO.out _ hb1
    · have hv12 : validS s = true ∧ s.length ≤ 12 := by simpa using HBV.out
      have HVS : Hid (∀ o ∈ s, validOp o = true) := ((validS_iff s).1 hv12.1).2.1
      have hn12 : n ≤ 12 := by have := HL.out; omega
      have HOK : Hid (runOk b s = true) := by show _ = _; rw [hok]; rfl
      have HTO : Hid (∀ W : World, Calls Try.prog 79 #[.slice none 0 0] W (TabPost W [])) := fun W => tableOf_any none 0 0 [] W ROps.nil (fun s hs => by cases hs)
      clear hok hv12
      go_enter Try.func111, Try.ntmps111
      go_wp2_with (first
        | (go_at_call 143; go_loud (refine HM.out.mono ?_; rintro e w0 ⟨rfl, rfl⟩))
        | (go_at_call 100; go_loud (refine HRA.out.mono ?_; rintro e w1 ⟨rfl, hb1⟩; have HB1 := Lib.hid hb1; clear hb1))
        | (go_at_call 79; go_loud (refine (HTO.out _).mono ?_; rintro e wt ⟨tg, rfl, htg, hT, hbt⟩; have hrz := run_zero (m := .iface mt (.agg #[])) HB1.out hT htg hbt; have HRZ := Lib.hid hrz; clear hT hbt hrz htg)))
      have HST : Hid (∃ V, RunAt (wt.alloc (.cells #[.slice none 0 0, .slice none 0 0, .slice none 0 0, .slice none 0 0, .pointer (some ⟨tg, 0, none⟩), .iface mt (.agg #[])] 115)) w.heap.size wt.heap.size tg (.iface mt (.agg #[])) V (runD r (s.take 0))) := ⟨_, HRZ.out.1⟩
      have HSB := Lib.hid HRZ.out.2
      clear HRZ HTO HRA HM HB1
      go_loopw [29] (fun i wr => ∃ (k : Nat) (V : DV), k ≤ n ∧ i = .int .i64 k ∧ RunAt wr w.heap.size wt.heap.size tg (.iface mt (.agg #[])) V (runD r (s.take k)) ∧ Fair (6 * k) (runD r (s.take k)) ∧ nextD r (runD r (s.take k)) = none ∧ Below w.heap.size w wr) (fun i _ => n - (intOf i).toNat)
      case atStart =>
        obtain ⟨V, hV⟩ := HST.out
        exact ⟨0, V, by omega, rfl, hV, fair_zero, next_zero r, HSB.out⟩
      case round =>
        clear HST HSB
        obtain ⟨wo, rfl⟩ : ∃ z : World, z = wr := ⟨_, rfl⟩
        obtain ⟨k, V, hk, rfl, hA, hF, hN, hb⟩ := hrel
        have hs := hb.size
        by_cases hlt : k < n
        · obtain ⟨bs, off, o, hAe, hbl, ho, c0, c1, c2⟩ := (HX.out.below hb (Nat.le_refl _)).at_ hlt
          subst hAe
          have hvo := HVS.out o (List.mem_of_getElem? ho)
          have hsc := runD_succ (r := r) ho
          rw [runStep_ask hN] at hsc
          obtain ⟨D, hD⟩ : ∃ D, runD r (s.take k) = D := ⟨_, rfl⟩
          rw [hD] at hA hF hsc
          have hfa := hF.ask (r := r) hA.ok hvo
          have hln := hF.lens (by omega)
          obtain ⟨W, hW⟩ : ∃ W : World, W = wo.alloc (.cells #[.int .i64 o.tx, .int .i64 o.kind, .int .i64 o.item] 92) := ⟨_, rfl⟩
          have hbW : Below wo.heap.size wo W := by rw [hW]; exact (Below.refl _ _).alloc (Nat.le_refl _) _
          have hAW := hA.lat hbW
          rw [← HMV.out] at hAW
          have hak := ask_run r w.heap.size wt.heap.size tg V D o W hAW hvo hF.comp (by omega) (by omega)
          rw [HMV.out] at hak hAW
          have HAK := Lib.hid hak
          have HAW := Lib.hid hAW
          have HFA := Lib.hid hfa
          have HSC := Lib.hid hsc
          have HW := Lib.hid hW
          have HBW := Lib.hid (hb.trans (hbW.mono hs))
          have hki : (k : Int) < (n : Int) := by omega
          have hk0 : (0 : Int) ≤ (k : Int) := by omega
          clear hA hF hN hb ho hvo hsc hD hfa hln hW hbW hAW hak
          obtain ⟨tx, kd, it⟩ := o
          unfold OpV.val at HAK
          simp only at c0 c1 c2 HAK HW
          go_wp2_with fail
          rw [← HW.out]
          refine HAK.out.mono ?_
          rintro e w5 ⟨rfl, V5, hA5, hS5⟩
          have HB5 : Hid (Below w.heap.size w w5) := HBW.out.trans (HAW.out.below hS5)
          rw [← HMV.out] at hA5
          have hse := settle_run r (6 * k + 6) (by omega) w.heap.size wt.heap.size tg V5 _ w5 hA5 HFA.out
          have hnx := settle_next (r := r) HFA.out
          rw [HMV.out] at hse hA5
          have HSE := Lib.hid hse
          have HNX := Lib.hid hnx
          have HA5 := Lib.hid hA5
          clear hA5 hS5 hse hnx
          go_wp2_with fail
          refine HSE.out.mono ?_
          rintro e w6 ⟨⟨rfl, V6, hA6, hS6⟩, hF6⟩
          have HB6 : Hid (Below w.heap.size w w6) := HB5.out.trans (HA5.out.below hS6)
          have HF6 := Lib.hid (And.intro hA6 hF6)
          clear hA6 hS6 hF6
          go_wp2_with fail
          go_roundw
          case rel => exact ⟨k + 1, V6, by omega, by go_num, by rw [HSC.out]; exact HF6.out.1, by rw [HSC.out]; exact HF6.out.2, by rw [HSC.out]; exact HNX.out, HB6.out⟩
          case measure => simp [intOf]; omega
        · obtain rfl : k = n := by omega
          have hte : s.take k = s := List.take_of_length_le (by have := HL.out; omega)
          rw [hte] at hA hF hN
          have HF : Hid (RunPost b s w (.returned (.tuple #[.pointer (some ⟨wt.heap.size, 0, none⟩), .bool true])) wo) := ⟨hb, .inr ⟨r, wt.heap.size, tg, V, HOK.out, HR.out, rfl, by rw [HMV.out]; exact hA, ⟨hF.val, hF.comp, hF.bnd.mono (by omega)⟩, hN⟩⟩
          clear hA hF hN hb
          go_wp2_with fail
          go_ret2
          exact HF.out
end Go.Proofs.Ytcakjhappchlmaa
