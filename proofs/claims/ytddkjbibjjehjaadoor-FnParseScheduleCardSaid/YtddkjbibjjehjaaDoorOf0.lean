/-
  The reader draws one of some strings.
-/
import Derived.Test.YtddkjbibjjehjaaDoorRd
import Derived.Test.YtddkjbibjjehjaaDoorRows0
namespace Go.Proofs.YtddkjbibjjehjaaDoor
open Go.RowKit Go.BigFrame
set_option linter.unusedVariables false

set_option maxHeartbeats 400000 in
theorem of_any (rb p g : Nat) (xs : List ByteArray) (T : TypeId) (w : World) (h : Rd w rb p) (hp : p ≤ 100000) (hx : RowIs w g T (xs.map Value.string)) (hk : 0 < xs.length) (hkb : xs.length ≤ 100) (hne : g ≠ rb) :
    Calls Tryd.prog 48 #[.pointer (some ⟨rb, 0, none⟩), .slice (some ⟨g, 0, none⟩) xs.length xs.length] w fun e w' => ∃ b ∈ xs, e = .returned (.string b) ∧ Rd w' rb (p + 1) ∧ Only rb w w' := by
  have hat : ∀ (v : Int) (w1 : World), Only rb w w1 → 0 ≤ v → v < xs.length → ∃ b ∈ xs, w1.cell? ⟨g, v.toNat, none⟩ = some (.string b) := by
    intro v w1 ho h0 h1
    have e : xs[v.toNat]? = some (xs[v.toNat]'(by omega)) := List.getElem?_eq_getElem (by omega)
    exact ⟨_, List.mem_of_getElem? e, (ho.cell hx.lt hne).trans (RowIs.cell hx (by rw [List.getElem?_map, e]; rfl))⟩
  have HA := Lib.hid hat
  obtain ⟨n, hn⟩ : ∃ n, xs.length = n := ⟨_, rfl⟩
  rw [hn] at hk hkb HA ⊢
  clear hat hx hne hn
  go_enter Tryd.func48, Tryd.ntmps48
  go_wp2_with fail
  refine (pick_any rb p _ w h hp (by omega)).mono ?_
  rintro e w1 ⟨v, rfl, hr, _, hv, ho⟩
  obtain ⟨hv0, hv1⟩ := hv (by omega)
  obtain ⟨b, hb, hc⟩ := HA.out v w1 ho hv0 hv1
  go_wp2_with fail
  go_ret
  exact ⟨b, hb, rfl, hr, ho⟩
end Go.Proofs.YtddkjbibjjehjaaDoor
