/-
  Texts that the proof rests on, joined: part 42.
-/
import Derived.Deep.CutRange
import Derived.Test.YtncebpmckbcabaaSKp1
import Derived.Test.YtncebpmckbcabaaSKp3
import Derived.Test.YtncebpmckbcabaaSKp10
import Derived.Test.YtncebpmckbcabaaSKp27
import Derived.Test.YtncebpmckbcabaaSKp28
import Derived.Test.YtncebpmckbcabaaSKp29
import Derived.Test.YtncebpmckbcabaaSKp30
import Derived.Test.YtncebpmckbcabaaSKp31
import Derived.Test.YtncebpmckbcabaaSKp35
import Derived.Test.YtncebpmckbcabaaSKp37
import Derived.Test.YtncebpmckbcabaaSKp38
import Derived.Test.YtncebpmckbcabaaSKp39
import Derived.Test.YtncebpmckbcabaaSKp40
import Derived.Test.YtncebpmckbcabaaSKp41
namespace Go.Proofs.Ytncebpmckbcabaa
open Go.RowKit Go.BigFrame
set_option linter.unusedVariables false

set_option maxHeartbeats 400000 in
theorem of_any (rb p g : Nat) (xs : List ByteArray) (T : TypeId) (w : World) (h : Rd w rb p) (hp : p ≤ 100000) (hx : RowIs w g T (xs.map Value.string)) (hk : 0 < xs.length) (hkb : xs.length ≤ 100) (hne : g ≠ rb) :
    Calls Try.prog 59 #[.pointer (some ⟨rb, 0, none⟩), .slice (some ⟨g, 0, none⟩) xs.length xs.length] w fun e w' => ∃ b ∈ xs, e = .returned (.string b) ∧ Rd w' rb (p + 1) ∧ Only rb w w' := by
  have hat : ∀ (v : Int) (w1 : World), Only rb w w1 → 0 ≤ v → v < xs.length → ∃ b ∈ xs, w1.cell? ⟨g, v.toNat, none⟩ = some (.string b) := by
    intro v w1 ho h0 h1
    have e : xs[v.toNat]? = some (xs[v.toNat]'(by omega)) := List.getElem?_eq_getElem (by omega)
    exact ⟨_, List.mem_of_getElem? e, (ho.cell hx.lt hne).trans (RowIs.cell hx (by rw [List.getElem?_map, e]; rfl))⟩
  have HA := Lib.hid hat
  obtain ⟨n, hn⟩ : ∃ n, xs.length = n := ⟨_, rfl⟩
  rw [hn] at hk hkb HA ⊢
  clear hat hx hne hn
  go_enter Try.func59, Try.ntmps59
  go_wp2_with fail
  refine (pick_any rb p _ w h hp (by omega)).mono ?_
  rintro e w1 ⟨v, rfl, hr, _, hv, ho⟩
  obtain ⟨hv0, hv1⟩ := hv (by omega)
  obtain ⟨b, hb, hc⟩ := HA.out v w1 ho hv0 hv1
  go_wp2_with fail
  go_ret
  exact ⟨b, hb, rfl, hr, ho⟩

theorem only_below {w w1 w2 : World} {rb : Nat} (hb : Below w.heap.size w w1) (hrb : w.heap.size ≤ rb) (hO : Only rb w1 w2) : Below w.heap.size w w2 := by
  have hs := hb.size
  exact hb.trans ⟨hO.os, hO.tape, hO.output, hO.size, fun k hk => hO.heap (by omega) (by omega)⟩
/-- A run of a schedule by any rule. -/
theorem runLocks_all (r : ByteArray) (hr : r ∈ [Rul.wait.str, Rul.die.str, Rul.wound.str]) (A : Option Addr) (n c : Nat) (s : List OpV) (w : World) (hx : ROps w A n s) (hn : n ≤ 100) (hit : ItemsOk s) :
    Calls Try.prog 44 #[.string r, .slice A n c] w fun e w' => ∃ D : Dsk, Bnd D (6 * n) ∧ RetDesk w D e w' := by
  have hl := hx.1
  have hb : ∀ r : Rul, Bnd (runD r s) (6 * n) := fun r => by
    have := (runD_facts (r := r) (s := s) (fun _ => hit) s.length).1
    rw [List.take_length, hl] at this
    exact this
  simp only [List.mem_cons, List.not_mem_nil, or_false] at hr
  rcases hr with rfl | rfl | rfl
  · exact (runLocks_wait A n c s w hx hn (fun N hN => resume_wait N hN)).mono fun e w' h => ⟨_, hb _, h⟩
  · exact (runLocks_die A n c s w hx hn (fun N hN => resume_die N hN)).mono fun e w' h => ⟨_, hb _, h⟩
  · exact (runLocks_wound A n c s w hx hn hit (fun N hN => resume_wound N hN)).mono fun e w' h => ⟨_, hb _, h⟩
end Go.Proofs.Ytncebpmckbcabaa
namespace Go.Proofs.Ytncebpmckbcabaa
open Go.RowKit Go.BigFrame
set_option linter.unusedVariables false

def sixR : List ByteArray := [{ data := #[114, 101, 99, 111, 118, 101, 114, 97, 98, 108, 101] }, { data := #[99, 97, 115, 99, 97, 100, 101, 115] }, { data := #[115, 116, 114, 105, 99, 116] }, { data := #[114, 105, 103, 111, 114, 111, 117, 115] }, { data := #[99, 111, 109, 109, 105, 116, 115] }, { data := #[115, 116, 114, 105, 99, 116] }, { data := #[114, 105, 103, 111, 114, 111, 117, 115] }, ⟨#[]⟩]
set_option maxHeartbeats 1000000 in
theorem aRule_any (rb p : Nat) (w : World) (h : Rd w rb p) (hp : p ≤ 1000) :
    Calls Try.prog 74 #[.pointer (some ⟨rb, 0, none⟩)] w fun e w' => ∃ b ∈ sixR, e = .returned (.string b) ∧ Rd w' rb (p + 1) ∧ Only rb w w' := by
  have hlt := h.lt
  go_enter Try.func74, Try.ntmps74
  go_wp2_with fail
  refine (of_any rb p w.heap.size sixR _ _ (h.alloc _) (by omega) (heap_alloc_new w _) (by simp [sixR]) (by simp [sixR]) (by omega)).mono ?_
  rintro e w1 ⟨b, hb, rfl, hr, ho⟩
  have HO : Hid (Only rb w w1) := ((Only.refl rb w).alloc _).trans ho
  clear ho
  go_wp2_with fail
  go_ret
  exact ⟨b, hb, rfl, hr, HO.out⟩
def DrawnK (w : World) (e : Ending) (w' : World) : Prop := ∃ b A n c s, b ∈ sixR ∧ e = .returned (.tuple #[.string b, .slice A n c]) ∧ n ≤ c ∧ ROps w' A n s ∧ n ≤ 1000 ∧ Below w.heap.size w w'
set_option maxRecDepth 100000 in
set_option maxHeartbeats 2000000 in
theorem DrawKeeps_any (A : Option Addr) (n c : Nat) (w : World) (hx : RBytes w A n) (hc : n ≤ c) :
    Calls Try.prog 31 #[.slice A n c] w (DrawnK w) := by
  go_enter Try.func31, Try.ntmps31
  go_wp2_with fail
  refine (newReader_any A n c w hx hc).mono ?_
  rintro e w1 ⟨rb, rfl, hrb, hr, hb⟩
  go_wp2_with fail
  refine (aRule_any rb 0 w1 hr (by omega)).mono ?_
  rintro e w2 ⟨b, hbR, rfl, hr2, ho2⟩
  go_wp2_with fail
  refine (pick_any rb 1 2 w2 hr2 (by omega) (by omega)).mono ?_
  rintro e w3 ⟨sw, rfl, hr3, _, _, ho3⟩
  have hO3 := ho2.trans ho3
  clear ho2 ho3
  by_cases h0 : sw = 0
  · subst h0
    go_wp2_with fail
    refine (goodScheduleI_any rb 2 12 w3 hr3 (by omega) (by omega)).mono ?_
    rintro e w4 ⟨v, m, xs, q, rfl, hown, hm, hr4, hq, hO4, hit⟩
    obtain ⟨Ax, cx, rfl, hmc⟩ := own_form2 hown
    have hO := hO3.trans hO4
    have hcw : Calls Try.prog 44 #[.string { data := #[119, 97, 105, 116] }, .slice Ax m cx] w4 fun e w' => ∃ D : Dsk, Bnd D (6 * m) ∧ RetDesk w4 D e w' := runLocks_all Rul.wait.str (by simp) Ax m cx xs w4 (ROps.of_own hown (by omega)) (by omega) hit
    have HRL := Lib.hid hcw
    clear hown hit hr4 hO3 hO4 hr3 hr2 hcw
    go_wp2_with fail
    refine HRL.out.mono ?_
    rintro e w5 ⟨D, hbn, V, rfl, hD, hb5⟩
    obtain ⟨Ad, Aw, Al, Ak, nd, nw, nl, nk, cd, cw, cl, ck, rfl, hcs, h1, h2, h3, h4⟩ := hD.forms
    have hnd := hbn.done
    have hro : ROps w5 Ad nd D.done := ROps.of_own (hD.doneN h1) (by omega)
    have HF : Hid (DrawnK w (.returned (.tuple #[.string b, .slice Ad nd cd])) w5) := ⟨b, Ad, nd, cd, _, hbR, rfl, hcs.1, hro, by omega, only_below hb hrb (hO.trans (Only.of_below hb5))⟩
    have hfd : ∀ W : World, (Instr.field 28 (.agg #[.slice Ad nd cd, .slice Aw nw cw, .slice Al nl cl, .slice Ak nk ck]) 0).run Try.prog W = .ok (.slice Ad nd cd) W := fun _ => by kernel_rfl
    clear hD hro hb5 hO hbn hnd HRL h1 h2 h3 h4
    unfold DV.val
    simp only
    go_wp2_with fail
    refine bodyPost_ret (v := .tuple #[.string b, .slice Ad nd cd]) (by simp [results, Try.results31, go_sem]) rfl ?_
    exact HF.out
  · go_wp2_with fail
    refine (someSchedule_any rb 2 w3 hr3 (by omega)).mono ?_
    rintro e w4 ⟨A3, n3, c3, q, xs, rfl, hown, hn3, _, _, hO4⟩
    obtain ⟨A4, c4, he, hmc⟩ := own_form2 hown
    injection he with e1 e2 e3
    subst e1; subst e3
    have HF : Hid (DrawnK w (.returned (.tuple #[.string b, .slice A3 n3 c3])) w4) := ⟨b, A3, n3, c3, xs, hbR, rfl, hmc, ROps.of_own hown (by omega), by omega, only_below hb hrb (hO3.trans hO4)⟩
    clear hown hO3 hO4
    go_wp2_with fail
    refine bodyPost_ret (v := .tuple #[.string b, .slice A3 n3 c3]) (by simp [results, Try.results31, go_sem]) rfl ?_
    exact HF.out
theorem kv_eq {s : List OpV} {B B' : Nat → Bool} (h : validS s = true → B = B') : (validS s && faultZ B s.length == -1) = (validS s && faultZ B' s.length == -1) := by
  cases hv : validS s
  · rfl
  · rw [h hv]
/-- One value is what both return. -/
def BothK (r : ByteArray) (s : List OpV) (kb : Bool) : Prop :=
  (∀ (A : Option Addr) (n c : Nat) (w : World), ROps w A n s → n ≤ c → Calls Try.prog 29 #[.string r, .slice A n c] w fun e w' => e = .returned (.bool kb) ∧ Below w.heap.size w w') ∧
  (∀ (A : Option Addr) (n c : Nat) (w : World), ROps w A n s → Calls Try.prog 32 #[.string r, .slice A n c] w fun e w' => e = .returned (.bool kb) ∧ Below w.heap.size w w')
theorem keeps_both {r : ByteArray} (hr : r ∈ sixR) (s : List OpV) : ∃ kb, BothK r s kb := by
  have e1 : (validS s && faultZ (sRec s) s.length == -1) = (validS s && faultZ (recB s) s.length == -1) := kv_eq fun hv => funext fun i => sRec_eq hv i
  have e2 : (validS s && faultZ (sCas s) s.length == -1) = (validS s && faultZ (casB s) s.length == -1) := kv_eq fun hv => funext fun i => sCas_eq hv i
  have e3 : (validS s && faultZ (sOpn false s) s.length == -1) = (validS s && faultZ (openB isWr s) s.length == -1) := kv_eq fun hv => funext fun i => sOpn_eq hv false i
  have e4 : (validS s && faultZ (sOpn true s) s.length == -1) = (validS s && faultZ (opnB isAcc s) s.length == -1) := kv_eq fun hv => funext fun i => sOpn_eq hv true i
  have e5 : (validS s && faultZ (sCom s) s.length == -1) = (validS s && faultZ (commB s) s.length == -1) := kv_eq fun hv => funext fun i => sCom_eq hv i
  have k1 : BothK { data := #[114, 101, 99, 111, 118, 101, 114, 97, 98, 108, 101] } s (validS s && faultZ (recB s) s.length == -1) := ⟨fun A n c w h hc => keepsRec_any A n c s w h hc, fun A n c w h => by
    have := sKeeps_any (b := { data := #[114, 101, 99, 111, 118, 101, 114, 97, 98, 108, 101] }) (B := sRec) (fun A n c i s w hx hi => sbreaks_rec A n c i s w hx hi) A n c s w h
    rw [e1] at this; exact this⟩
  have k2 : BothK { data := #[99, 97, 115, 99, 97, 100, 101, 115] } s (validS s && faultZ (casB s) s.length == -1) := ⟨fun A n c w h hc => keepsCas_any A n c s w h hc, fun A n c w h => by
    have := sKeeps_any (b := { data := #[99, 97, 115, 99, 97, 100, 101, 115] }) (B := sCas) (fun A n c i s w hx hi => sbreaks_cas A n c i s w hx hi) A n c s w h
    rw [e2] at this; exact this⟩
  have k3 : BothK { data := #[115, 116, 114, 105, 99, 116] } s (validS s && faultZ (openB isWr s) s.length == -1) := ⟨fun A n c w h hc => keepsStrict_any A n c s w h hc, fun A n c w h => by
    have := sKeeps_any (b := { data := #[115, 116, 114, 105, 99, 116] }) (B := sOpn false) (fun A n c i s w hx hi => sbreaks_str A n c i s w hx hi) A n c s w h
    rw [e3] at this; exact this⟩
  have k4 : BothK { data := #[114, 105, 103, 111, 114, 111, 117, 115] } s (validS s && faultZ (opnB isAcc s) s.length == -1) := ⟨fun A n c w h hc => keepsRigor_any A n c s w h hc, fun A n c w h => by
    have := sKeeps_any (b := { data := #[114, 105, 103, 111, 114, 111, 117, 115] }) (B := sOpn true) (fun A n c i s w hx hi => sbreaks_rig A n c i s w hx hi) A n c s w h
    rw [e4] at this; exact this⟩
  have k5 : BothK { data := #[99, 111, 109, 109, 105, 116, 115] } s (validS s && faultZ (commB s) s.length == -1) := ⟨fun A n c w h hc => keepsCommits_any A n c s w h hc, fun A n c w h => by
    have := sKeeps_any (b := { data := #[99, 111, 109, 109, 105, 116, 115] }) (B := sCom) (fun A n c i s w hx hi => sbreaks_com A n c i s w hx hi) A n c s w h
    rw [e5] at this; exact this⟩
  have k6 : BothK ⟨#[]⟩ s false := ⟨fun A n c w h hc => keepsNone_any A n c s w h hc, fun A n c w h => sKeepsNone_any A n c s w h⟩
  unfold sixR at hr
  simp only [List.mem_cons, List.not_mem_nil, or_false] at hr
  rcases hr with rfl | rfl | rfl | rfl | rfl | rfl | rfl | rfl
  · exact ⟨_, k1⟩
  · exact ⟨_, k2⟩
  · exact ⟨_, k3⟩
  · exact ⟨_, k4⟩
  · exact ⟨_, k5⟩
  · exact ⟨_, k3⟩
  · exact ⟨_, k4⟩
  · exact ⟨_, k6⟩
end Go.Proofs.Ytncebpmckbcabaa
namespace Go.Proofs.Ytncebpmckbcabaa
open Go.RowKit Go.BigFrame
set_option linter.unusedVariables false

theorem faultZ_iff {B : Nat → Bool} {n : Nat} : faultZ B n = -1 ↔ ∀ j, j < n → B j = false := by
  refine ⟨fun h j hj => ?_, faultZ_none⟩
  cases hb : B j
  · rfl
  · exfalso
    unfold faultZ at h
    cases e : (List.range n).find? B with
    | none =>
      have := List.find?_eq_none.1 e j (List.mem_range.2 hj)
      exact this hb
    | some i =>
      rw [e] at h
      simp only at h
      omega
end Go.Proofs.Ytncebpmckbcabaa
