/-
  Parts of the program's DragsOf: its closure, slices.ContainsFunc of integers.
-/
import Derived.Test.YtmookobaljcpbaaDrag2
namespace Go.Proofs.Ytmookobaljcpbaa
open Go.RowKit Go.BigFrame
set_option linter.unusedVariables false


set_option maxRecDepth 100000 in
set_option maxHeartbeats 400000 in
theorem IndexFuncS_any (A : Option Addr) (n c : Nat) (s : List Int) (F : FuncId) (caps : Array Value) (p : Int → Bool) (w : World) (hx : RInts w A n s) (hf : ClosInt w F caps s p) :
    Calls Try.prog 93 #[.slice A n c, .func (.func F) #[] caps] w (IdxPost s p w) := by
  have hn := hx.2.1
  have hl := hx.1
  have HX := Lib.hid hx
  have HF := Lib.hid hf
  clear hx hf
  go_enter Try.func93, Try.ntmps93
  go_wp2_with fail
  go_loopw [8] (fun i wr => ∃ k : Nat, k ≤ n ∧ i = .int .i64 k ∧ Below w.heap.size w wr ∧ (∀ j, j < k → ∀ o, s[j]? = some o → p o = false)) (fun i _ => n - (intOf i).toNat)
  case atStart => exact ⟨0, Nat.zero_le _, rfl, Below.refl _ _, by omega⟩
  case round =>
    obtain ⟨k, hk, rfl, hb, hno⟩ := hrel
    by_cases hlt : k < n
    · obtain ⟨b, off, o, rfl, hbl, ho, c0⟩ := (HX.out.below hb (Nat.le_refl _)).at_ hlt
      have hcl := HF.out.2 wr o hb (List.mem_of_getElem? ho)
      have hrun := HF.out.1
      unfold Runs at hrun
      skip
      have HN : Hid (p o = false → ∀ j, j < k + 1 → ∀ o, s[j]? = some o → p o = false) := fun h => no_snoc ho hno h
      have HT : Hid (p o = true → ∀ w', Below w.heap.size w w' → IdxPost s p w (.returned (.int .i64 k)) w') := fun h w' hb' =>
        ⟨hb', .inr ⟨List.any_eq_true.2 ⟨o, List.mem_of_getElem? ho, h⟩, k, by omega, ⟨o, ho, h⟩, hno, rfl⟩⟩
      have HC := Lib.hid hcl
      clear hno ho hcl
      cases hp : p o
      · rw [hp] at HC
        go_wp2_with fail
        refine (HC.out).mono ?_
        rintro e w1 ⟨rfl, hb1⟩
        go_wp2_with fail
        go_roundw
        case rel => exact ⟨k + 1, by omega, by go_num, hb.trans (hb1.mono hb.size), HN.out hp⟩
        case measure => simp [intOf]; omega
      · rw [hp] at HC
        go_wp2_with fail
        refine (HC.out).mono ?_
        rintro e w1 ⟨rfl, hb1⟩
        go_wp2_with fail
        go_ret
        exact HT.out hp _ (hb.trans (hb1.mono hb.size))
    · have HE := Lib.hid (find_none_all (s := s) (p := p) (fun j hj => hno j (by omega)))
      clear hno
      go_wp2_with fail
      go_ret
      exact ⟨hb, .inl ⟨HE.out, rfl⟩⟩


set_option maxHeartbeats 400000 in
theorem ContainsFuncS_any (A : Option Addr) (n c : Nat) (s : List Int) (F : FuncId) (caps : Array Value) (p : Int → Bool) (w : World) (hx : RInts w A n s) (hf : ClosInt w F caps s p) :
    Calls Try.prog 68 #[.slice A n c, .func (.func F) #[] caps] w fun e w' => e = .returned (.bool (s.any p)) ∧ Below w.heap.size w w' := by
  have HI := Lib.hid (IndexFuncS_any A n c s F caps p w hx hf)
  clear hx hf
  go_enter Try.func68, Try.ntmps68
  go_wp2_with fail
  refine (HI.out).mono ?_
  rintro e w1 ⟨hb, ⟨ha, rfl⟩ | ⟨ha, k, hk, _, _, rfl⟩⟩
  · have HA := Lib.hid ha
    clear ha
    go_wp2_with fail
    go_ret
    exact ⟨ret_bool HA.out.symm, hb⟩
  · have HA := Lib.hid ha
    clear ha
    go_wp2_with fail
    go_ret
    exact ⟨ret_bool HA.out.symm, hb⟩


set_option maxHeartbeats 400000 in
theorem DragsOf1_any (u : Int) (A : Option Addr) (n c b : Nat) (s : List OpV) (w : World) (hc : w.cell? ⟨b, 0, none⟩ = some (.slice A n c)) (hx : ROps w A n s) :
    Calls Try.prog 69 #[.int .i64 u, .pointer (some ⟨b, 0, none⟩)] w fun e w' => e = .returned (.bool (endOf s u == 2)) ∧ Below w.heap.size w w' := by
  obtain ⟨E, hE⟩ : ∃ E, endOf s u = E := ⟨_, rfl⟩
  have hC := endOf_any A n c s u w hx
  rw [hE] at hC ⊢
  have HC := Lib.hid hC
  clear hC hx hE
  go_enter Try.func69, Try.ntmps69
  go_wp2_with fail
  refine HC.out.mono ?_
  rintro e w1 ⟨rfl, hb⟩
  go_wp2_with fail
  go_ret
  exact ⟨rfl, hb⟩
theorem runs_DragsOf1 : Runs 69 := runs_of Try.func69 (by kernel_rfl) rfl
end Go.Proofs.Ytmookobaljcpbaa
