/-
  Texts that the proof rests on, joined: part 48.
-/
import Derived.StillTailTactics
import Derived.Test.YtcakjhappchlmaaSWx2
import Derived.Test.YtcakjhappchlmaaSWx8
import Derived.Test.YtcakjhappchlmaaSWx40
import Derived.Test.YtcakjhappchlmaaSWx44
import Derived.Test.YtcakjhappchlmaaSWx45
import Derived.Test.YtcakjhappchlmaaSWx47
namespace Go.Proofs.Ytcakjhappchlmaa
open Go.RowKit Go.BigFrame
set_option linter.unusedVariables false

theorem FreshOps.at_ {w0 w : World} {A : Option Addr} {n : Nat} {xs : List OpV} (h : FreshOps w0 w A n xs) : ∀ ad, A = some ad → w0.heap.size ≤ ad.block ∧ ad.block < w.heap.size := by
  intro ad had
  obtain ⟨b, cur, rfl, hge, hh, _⟩ := h.2 ad had
  exact ⟨hge, lt_of_block hh⟩
theorem FreshInts.at_ {w0 w : World} {A : Option Addr} {n : Nat} {xs : List Int} (h : FreshInts w0 w A n xs) : ∀ ad, A = some ad → w0.heap.size ≤ ad.block ∧ ad.block < w.heap.size := by
  intro ad had
  obtain ⟨b, cur, rfl, hge, hh, _⟩ := h.2 ad had
  exact ⟨hge, lt_of_block hh⟩
theorem FreshOps.below {w0 w w' : World} {A : Option Addr} {n : Nat} {xs : List OpV} (h : FreshOps w0 w A n xs) (hb : Below w.heap.size w w') : FreshOps w0 w' A n xs :=
  ⟨h.1.below hb (Nat.le_refl _), fun ad had => by obtain ⟨b, cur, e, hge, hh, hs⟩ := h.2 ad had; exact ⟨b, cur, e, hge, (hb.block b (lt_of_block hh)).trans hh, hs⟩⟩
theorem FreshInts.below {w0 w w' : World} {A : Option Addr} {n : Nat} {xs : List Int} (h : FreshInts w0 w A n xs) (hb : Below w.heap.size w w') : FreshInts w0 w' A n xs :=
  ⟨h.1.below hb (Nat.le_refl _), fun ad had => by obtain ⟨b, cur, e, hge, hh, hs⟩ := h.2 ad had; exact ⟨b, cur, e, hge, (hb.block b (lt_of_block hh)).trans hh, hs⟩⟩
/-- The block of one address is not that of the other. -/
def Apart (A B : Option Addr) : Prop := ∀ a b, A = some a → B = some b → a.block ≠ b.block
theorem Apart.row {A B : Option Addr} (h : Apart A B) : ∀ b, B = some b → A.map Addr.block ≠ some b.block := by
  intro b hb e
  cases A with
  | none => cases e
  | some a => injection e with e; exact h a b rfl hb e
theorem Apart.of_lt {A B : Option Addr} {k : Nat} (h1 : ∀ a, A = some a → k ≤ a.block) (h2 : ∀ b, B = some b → b.block < k) : Apart A B := fun a b ha hb e => by have := h1 a ha; have := h2 b hb; omega
theorem Apart.symm {A B : Option Addr} (h : Apart A B) : Apart B A := fun a b ha hb e => h b a hb ha e.symm
theorem FreshInts.grown {w0 w w' : World} {A : Option Addr} {n : Nat} {xs : List Int} {row : Option Nat} (h : FreshInts w0 w A n xs) (hg : w.grownBy w' row) (hne : ∀ b, A = some b → row ≠ some b.block) : FreshInts w0 w' A n xs :=
  ⟨h.1.grown hg hne, fun ad had => by obtain ⟨b, cur, e, hge, hh, hs⟩ := h.2 ad had; exact ⟨b, cur, e, hge, (hg.block b (lt_of_block hh) (fun e2 => hne _ had (by rw [← e2, e]))).trans hh, hs⟩⟩
theorem FreshOps.grown {w0 w w' : World} {A : Option Addr} {n : Nat} {xs : List OpV} {row : Option Nat} (h : FreshOps w0 w A n xs) (hg : w.grownBy w' row) (hne : ∀ b, A = some b → row ≠ some b.block) : FreshOps w0 w' A n xs :=
  ⟨h.1.grown hg hne, fun ad had => by obtain ⟨b, cur, e, hge, hh, hs⟩ := h.2 ad had; exact ⟨b, cur, e, hge, (hg.block b (lt_of_block hh) (fun e2 => hne _ had (by rw [← e2, e]))).trans hh, hs⟩⟩
theorem below_marked {w w1 w2 : World} {A : Option Addr} (h : Below w.heap.size w w1) (hg : w1.grownBy w2 (A.map Addr.block)) (hA : ∀ a, A = some a → w.heap.size ≤ a.block) : Below w.heap.size w w2 :=
  h.grown hg h.size fun k hk => by
    cases A with
    | none => cases hk
    | some a => injection hk with hk; rw [← hk]; exact hA a rfl
end Go.Proofs.Ytcakjhappchlmaa
namespace Go.Proofs.Ytcakjhappchlmaa
open Go.RowKit Go.BigFrame
set_option linter.unusedVariables false

/-- The run of a named rule; the zero desk where there is none. -/
def runDV (b : ByteArray) (s : List OpV) : Dsk := if runOk b s then (match rulOf b with | some r => runD r s | none => Dsk.zero) else Dsk.zero
theorem runDV_of {b : ByteArray} {s : List OpV} {r : Rul} (h : runOk b s = true) (hr : rulOf b = some r) : runDV b s = runD r s := by unfold runDV; rw [h, hr]; rfl
def waitsV (b : ByteArray) (s : List OpV) : List Int := if runOk b s then rowsI (waitsR (runDV b s)) else []
set_option maxRecDepth 100000 in
set_option maxHeartbeats 1000000 in
theorem WaitsOf_any (b : ByteArray) (A : Option Addr) (n c : Nat) (s : List OpV) (w : World) (hx : ROps w A n s) (hnc : n ≤ c) :
    Calls Try.prog 52 #[.string b, .slice A n c] w (RetInts w (waitsV b s)) := by
  have hro := runOf_any b A n c s w hx hnc
  have HRO := Lib.hid hro
  clear hx hro
  go_enter Try.func52, Try.ntmps52
  go_wp2_with fail
  refine HRO.out.mono ?_
  rintro e w1 ⟨hb, ⟨hno, rfl⟩ | ⟨r, R, tg, V, hok, hr, rfl, hA, hF, hN⟩⟩
  · have HO : Hid (RetInts w (waitsV b s) (.returned (.slice none 0 0)) w1) := by
      show RetInts _ _ _ _
      unfold waitsV
      rw [hno]
      exact RetInts.nil hb
    clear hno hb HRO
    go_wp2_with fail
    go_ret
    exact HO.out
  · have hlen := hF.lens (by omega)
    have hwf := waitsFor_run w.heap.size R tg (mannerV r) V (runD r s) w1 hA hF.val hF.comp (by omega)
    have hwv : waitsV b s = rowsI (waitsR (runD r s)) := by unfold waitsV; rw [hok, runDV_of hok hr]; rfl
    have HWF := Lib.hid hwf
    have HWV := Lib.hid hwv
    have HB := Lib.hid hb
    clear hwf hwv hb hlen hA hF hN hok hr HRO
    go_wp2_with fail
    refine HWF.out.mono ?_
    intro e w2 h
    have h2 := h.later HB.out
    rw [← HWV.out] at h2
    obtain ⟨A2, c2, rfl, hrest⟩ := h2
    have HR := Lib.hid hrest
    clear hrest h HWF
    go_wp2_with fail
    go_ret
    exact ⟨A2, c2, rfl, HR.out⟩
end Go.Proofs.Ytcakjhappchlmaa
