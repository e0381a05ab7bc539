/-
  The draw of LocksOf: a string of a list; a run of a schedule, or a schedule.
-/
import Derived.Test.YtcakjhappchlmaaQWLkWE
import Derived.Test.YtcakjhappchlmaaQWLkWA
import Derived.Test.YtcakjhappchlmaaQWLkWD
import Derived.Test.YtcakjhappchlmaaQWGen5
import Derived.Test.YtcakjhappchlmaaPkLkG
namespace Go.Proofs.Ytcakjhappchlmaa
open Go.RowKit Go.BigFrame
set_option linter.unusedVariables false

set_option maxHeartbeats 400000 in
theorem runScheduleL_any (rb p : Nat) (w : World) (h : Rd w rb p) (hp : p ≤ 40000) :
    Calls Try.prog 99 #[.pointer (some ⟨rb, 0, none⟩)] w (SomeSched w rb) := by
  have hlt := h.lt
  go_enter Try.func99, Try.ntmps99
  go_wp2_with fail
  refine (pick_any rb p 24 w h (by omega) (by omega)).mono ?_
  rintro e w1 ⟨k, rfl, hr1, _, _, ho1⟩
  by_cases h0 : k = 0
  · subst h0
    go_wp2_with fail
    refine (someSchedule_any rb (p + 1) w1 hr1 (by omega)).mono ?_
    rintro e w2 ⟨A, n, c, q, xs, rfl, hown, hn, hr, hq, hO⟩
    go_wp2_with fail
    go_ret
    exact ⟨A, n, c, q, xs, rfl, own_base hown ho1.size, hn, hr, hq, ho1.trans hO⟩
  · go_wp2_with fail
    refine (goodSchedule_any rb (p + 1) 12 w1 hr1 (by omega) (by omega)).mono ?_
    rintro e w2 ⟨v, n, xs, q, rfl, hown, hn, hr, hq, hO⟩
    obtain ⟨A, c, rfl⟩ := own_form hown
    go_wp2_with fail
    refine (bent_any rb q w1.heap.size n c A xs w1 w2 hr (by omega) hown hn hO (Nat.le_refl _) (Nat.lt_of_lt_of_le hlt ho1.size)).mono ?_
    rintro e w3 ⟨xs', q', rfl, hown', hr', hq', hO'⟩
    go_wp2_with fail
    go_ret
    exact ⟨A, n, c, q', xs', rfl, own_base hown' ho1.size, hn, hr', hq', ho1.trans hO'⟩
set_option maxHeartbeats 400000 in
theorem of_any (rb p g : Nat) (xs : List ByteArray) (T : TypeId) (w : World) (h : Rd w rb p) (hp : p ≤ 100000) (hx : RowIs w g T (xs.map Value.string)) (hk : 0 < xs.length) (hkb : xs.length ≤ 100) (hne : g ≠ rb) :
    Calls Try.prog 97 #[.pointer (some ⟨rb, 0, none⟩), .slice (some ⟨g, 0, none⟩) xs.length xs.length] w fun e w' => ∃ b ∈ xs, e = .returned (.string b) ∧ Rd w' rb (p + 1) ∧ Only rb w w' := by
  have hat : ∀ (v : Int) (w1 : World), Only rb w w1 → 0 ≤ v → v < xs.length → ∃ b ∈ xs, w1.cell? ⟨g, v.toNat, none⟩ = some (.string b) := by
    intro v w1 ho h0 h1
    have e : xs[v.toNat]? = some (xs[v.toNat]'(by omega)) := List.getElem?_eq_getElem (by omega)
    exact ⟨_, List.mem_of_getElem? e, (ho.cell hx.lt hne).trans (RowIs.cell hx (by rw [List.getElem?_map, e]; rfl))⟩
  have HA := Lib.hid hat
  obtain ⟨n, hn⟩ : ∃ n, xs.length = n := ⟨_, rfl⟩
  rw [hn] at hk hkb HA ⊢
  clear hat hx hne hn
  go_enter Try.func97, Try.ntmps97
  go_wp2_with fail
  refine (pick_any rb p _ w h hp (by omega)).mono ?_
  rintro e w1 ⟨v, rfl, hr, _, hv, ho⟩
  obtain ⟨hv0, hv1⟩ := hv (by omega)
  obtain ⟨b, hb, hc⟩ := HA.out v w1 ho hv0 hv1
  go_wp2_with fail
  go_ret
  exact ⟨b, hb, rfl, hr, ho⟩

def DrawnL (w : World) (e : Ending) (w' : World) : Prop := ∃ A n c s, e = .returned (.slice A n c) ∧ n ≤ c ∧ ROps w' A n s ∧ n ≤ 1000 ∧ Below w.heap.size w w'
theorem only_below {w w1 w2 : World} {rb : Nat} (hb : Below w.heap.size w w1) (hrb : w.heap.size ≤ rb) (hO : Only rb w1 w2) : Below w.heap.size w w2 := by
  have hs := hb.size
  exact hb.trans ⟨hO.os, hO.tape, hO.output, hO.size, fun k hk => hO.heap (by omega) (by omega)⟩
/-- A run of a schedule by any rule. -/
theorem runLocks_all (r : ByteArray) (hr : r ∈ [Rul.wait.str, Rul.die.str, Rul.wound.str]) (A : Option Addr) (n c : Nat) (s : List OpV) (w : World) (hx : ROps w A n s) (hn : n ≤ 100) (hit : ItemsOk s) :
    Calls Try.prog 96 #[.string r, .slice A n c] w fun e w' => ∃ D : Dsk, Bnd D (6 * n) ∧ RetDesk w D e w' := by
  have hl := hx.1
  have hb : ∀ r : Rul, Bnd (runD r s) (6 * n) := fun r => by
    have := (runD_facts (r := r) (s := s) (fun _ => hit) s.length).1
    rw [List.take_length, hl] at this
    exact this
  simp only [List.mem_cons, List.not_mem_nil, or_false] at hr
  rcases hr with rfl | rfl | rfl
  · exact (runLocks_wait A n c s w hx hn (fun N hN => resume_wait N hN)).mono fun e w' h => ⟨_, hb _, h⟩
  · exact (runLocks_die A n c s w hx hn (fun N hN => resume_die N hN)).mono fun e w' h => ⟨_, hb _, h⟩
  · exact (runLocks_wound A n c s w hx hn hit (fun N hN => resume_wound N hN)).mono fun e w' h => ⟨_, hb _, h⟩
set_option maxRecDepth 100000 in
set_option maxHeartbeats 2000000 in
theorem DrawLocksOf_any (A : Option Addr) (n c : Nat) (w : World) (hx : RBytes w A n) (hc : n ≤ c) :
    Calls Try.prog 35 #[.slice A n c] w (DrawnL w) := by
  go_enter Try.func35, Try.ntmps35
  go_wp2_with fail
  refine (newReader_any A n c w hx hc).mono ?_
  rintro e w1 ⟨rb, rfl, hrb, hr, hb⟩
  have hs1 := hb.size
  go_wp2_with fail
  refine (pick_any rb 0 2 w1 hr (by omega) (by omega)).mono ?_
  rintro e w2 ⟨sw, rfl, hr2, _, _, ho2⟩
  have hs2 := ho2.size
  have hlt2 := hr2.lt
  by_cases h0 : sw = 0
  · subst h0
    go_wp2_with fail
    refine (of_any rb 1 w2.heap.size [Rul.wait.str, Rul.die.str, Rul.wound.str] _ _ (hr2.alloc _) (by omega) (heap_alloc_new w2 _) (by simp) (by simp) (by omega)).mono ?_
    rintro e w3 ⟨r, hrl, rfl, hr3, ho3⟩
    have hO3 : Only rb w1 w3 := (ho2.alloc _).trans ho3
    have hs3 := hO3.size
    go_wp2_with fail
    refine (goodScheduleI_any rb 2 10 w3 hr3 (by omega) (by omega)).mono ?_
    rintro e w4 ⟨v, m, xs, q, rfl, hown, hm, hr4, hq, hO4, hit⟩
    obtain ⟨Ax, cx, rfl, hmc⟩ := own_form2 hown
    have hO := hO3.trans hO4
    have HRL := Lib.hid (runLocks_all r hrl Ax m cx xs w4 (ROps.of_own hown (by omega)) (by omega) hit)
    clear hown hit hr4 hO3 hO4 ho3 ho2 hr3 hr2 hrl
    go_wp2_with fail
    refine HRL.out.mono ?_
    rintro e w5 ⟨D, hbn, V, rfl, hD, hb5⟩
    obtain ⟨Ad, Aw, Al, Ak, nd, nw, nl, nk, cd, cw, cl, ck, rfl, hcs, h1, h2, h3, h4⟩ := hD.forms
    have hnd := hbn.done
    have hro : ROps w5 Ad nd D.done := ROps.of_own (hD.doneN h1) (by omega)
    have HF : Hid (DrawnL w (.returned (.slice Ad nd cd)) w5) := ⟨Ad, nd, cd, _, rfl, hcs.1, hro, by omega, only_below hb hrb (hO.trans (Only.of_below hb5))⟩
    have hfd : ∀ W : World, (Instr.field 68 (.agg #[.slice Ad nd cd, .slice Aw nw cw, .slice Al nl cl, .slice Ak nk ck]) 0).run Try.prog W = .ok (.slice Ad nd cd) W := fun _ => by kernel_rfl
    clear hD hro hb5 hO hbn hnd HRL h1 h2 h3 h4
    unfold DV.val
    simp only
    go_wp2_with fail
    go_ret
    exact HF.out
  · go_wp2_with fail
    refine (runScheduleL_any rb 1 w2 hr2 (by omega)).mono ?_
    rintro e w3 ⟨A3, n3, c3, q, xs, rfl, hown, hn3, _, _, hO3⟩
    obtain ⟨A4, c4, he, hmc⟩ := own_form2 hown
    injection he with e1 e2 e3
    subst e1; subst e3
    have HF : Hid (DrawnL w (.returned (.slice A3 n3 c3)) w3) := ⟨A3, n3, c3, xs, rfl, hmc, ROps.of_own hown (by omega), by omega, only_below hb hrb (ho2.trans hO3)⟩
    clear hown ho2 hO3
    go_wp2_with fail
    go_ret
    exact HF.out
end Go.Proofs.Ytcakjhappchlmaa
