/-
  The draw of the law of ParseSchedule: a text of bounded length.
-/
import Derived.Test.YtddkjbibjjehjaaDoorMut0
import Derived.Test.YtddkjbibjjehjaaDoorGen6
import Derived.Test.YtddkjbibjjehjaaDoorTx7
namespace Go.Proofs.YtddkjbibjjehjaaDoor
open Go.RowKit Go.BigFrame
set_option linter.unusedVariables false

theorem draw_below {w w1 w2 : World} {rb : Nat} (hb : Below w.heap.size w w1) (hrb : w.heap.size ≤ rb) (hO : Only rb w1 w2) : Below w.heap.size w w2 := by
  have hs := hb.size
  exact hb.trans ⟨hO.os, hO.tape, hO.output, hO.size, fun k hk => hO.heap (by omega) (by omega)⟩
set_option maxRecDepth 100000 in
set_option maxHeartbeats 1000000 in
theorem DrawParseSchedule_any (A : Option Addr) (n c : Nat) (w : World) (hx : RBytes w A n) (hc : n ≤ c) :
    Calls Tryd.prog 16 #[.slice A n c] w fun e w' => ∃ t : ByteArray, e = .returned (.string t) ∧ t.size ≤ 1000 ∧ Below w.heap.size w w' := by
  have HM := Lib.hid (newReader_any A n c w hx hc)
  clear hx
  go_enter Tryd.func16, Tryd.ntmps16
  go_wp2_with fail
  refine HM.out.mono ?_
  rintro e w1 ⟨rb, rfl, hrb, hr, hb⟩
  go_wp2_with fail
  refine (goodScheduleW_any 0 (by omega) rb 0 16 w1 hr (Nat.le_refl _) (by omega)).mono ?_
  rintro e w2 ⟨v, m, xs, p, rfl, hown, hm, hr2, hp, hO, hok⟩
  obtain ⟨R, rc, rfl, hrc⟩ := own_form2 hown
  have hb2 := draw_below hb hrb hO
  have HS := Lib.hid (sschedText_any R m rc xs w2 (ROps.of_own hown (by omega)) hok)
  have hml : xs.length = m := own_lenOps hown
  have htl := schedL_len xs
  obtain ⟨T, hT⟩ : ∃ T : ByteArray, T = ⟨⟨schedL xs⟩⟩ := ⟨_, rfl⟩
  have hTs : T.size ≤ 80 := by
    rw [hT]
    show (schedL xs).length ≤ 80
    omega
  unfold strV at HS
  rw [← hT] at HS
  have HR2 := Lib.hid hr2
  clear hown hok hT htl hml hO hr hb hr2
  go_wp2_with fail
  refine HS.out.mono ?_
  rintro e w3 ⟨rfl, hb3⟩
  have hb3' : Below w.heap.size w w3 := hb2.trans (hb3.mono hb2.size)
  have hr3 := HR2.out.below hb3
  have hs3 := hb3.size
  clear hb3
  go_wp2_with fail
  refine (pick_any rb p 3 w3 hr3 (by omega) (by omega)).mono ?_
  rintro e w4 ⟨k, rfl, hr4, _, hk, ho4⟩
  have hb4 := draw_below hb3' hrb ho4
  by_cases h0 : k = 0
  · subst h0
    go_wp2_with fail
    refine (mutate_any rb (p + 1) T w4 hr4 (by omega) (by omega)).mono ?_
    rintro e w5 ⟨t, q, rfl, ht, _, _, ho5⟩
    have hb5 := draw_below hb4 hrb ho5
    go_wp2_with fail
    go_ret
    exact ⟨_, rfl, by omega, hb5⟩
  · go_wp2_with fail
    go_ret
    exact ⟨_, rfl, by omega, hb4⟩
end Go.Proofs.YtddkjbibjjehjaaDoor
