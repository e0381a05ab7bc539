/-
  The statement, proved. (Names of the texts it rests on were shortened by a program, for the size of the claim.)
-/
import Derived.Test.YtddkjbibjjehjaaGreatDoorRows
import Derived.WalkKit
import Derived.ProofKit
import Derived.OpenShut
import Derived.ShutString
import Derived.ChangeOld
import Derived.Below
import Derived.Test.YtddkjbibjjehjaaGreatDoorSXr4
import Derived.Test.YtddkjbibjjehjaaGreatDoorSXr48
import Derived.LaidMore
import Derived.Lay
import Derived.SevenTiedAt
import Derived.Stop.Joined
import Derived.Test.YtddkjbibjjehjaaGreatDoorCards
import Derived.Test.YtddkjbibjjehjaaGreatDoorTie
import Derived.Test.YtddkjbibjjehjaaGreatDoorSXr1
import Derived.Test.YtddkjbibjjehjaaGreatDoorSXr49
namespace Go.Proofs.YtddkjbibjjehjaaGreatDoor.fnExactRunDesk
open Go.ChangeShapes Go.WideShapes Go.ChangeAt Go.RowKit
open Go.ChangeMaps (open_string shut_string)
set_option linter.unusedVariables false

theorem own : ownKnob Tryz.prog.godebug = none := by kernel_rfl
theorem laidOut : laidOutB Tryz.prog = true := by kernel_rfl

theorem walk (a0 : Option Addr) (l0 c0 : Nat) (w : World) (hL : Laid w) (g0 : Hz w a0 l0 c0) :
    Calls Tryz.prog 3 #[.slice a0 l0 c0] w fun e w' => e = .returned (.bool true) ∧ Below w.heap.size w w' := FX a0 l0 c0 w g0 hL
set_option maxRecDepth 100000 in
theorem lifted (os : Os) (started : os.Started) (H : Type) (enc : TypeId × Value → H) :
    ReturnsInHanded {} Tryz.checked os 3 .any (fun w args => (Rows.fnExactRunDeskSpec.pre enc Tryz.prog Tryz.f3 Rows.fnExactRunDeskRow.domain false w args ∧ laidMetH Tryz.prog Rows.fnExactRunDeskRow.laid w) ∧ sizedMet enc Tryz.prog Tryz.f3 (OpenSpec.ofChange Rows.fnExactRunDeskSpec) false w args)
      (Rows.fnExactRunDeskSpec.post enc Tryz.prog Tryz.f3 false true false false) := by
  refine returnsInHanded_of_change_and (C := Tryz.checked) (X := fun w _ => laidMetH Tryz.prog Rows.fnExactRunDeskRow.laid w) (fun _ _ _ hh h => h.of_heap hh) own started (by kernel_rfl) Tryz.func3
    (ChangeSpec.witness_shaped (enc := enc) (C := Tryz.checked) (os := os) (X := fun w _ => laidMetH Tryz.prog Rows.fnExactRunDeskRow.laid w) false (og os) #[.slice none 0 0] 8 (zw _)
      (World.shaped_of_ZipB (by kernel_rfl) (by kernel_rfl)) (by kernel_rfl) (by kernel_rfl) (by kernel_rfl)
      (wY os _)) ?_
  intro W base args ds gs before hval0 hW hcnd _ hL _
  have hval : ∀ (j : Nat) t v, Tryz.f3.params[j]? = some t → args[j]? = some v → Value.okWide Tryz.prog W .any base t v := hval0
  have hW' := hW
  obtain ⟨p, q, hA0, hV, rfl, hfz, hnd⟩ := hW
  have hA : DataW.TrodAll enc Tryz.prog W 0 (fun _ => true) true Tryz.f3.params.toList args.toList ds p := hA0
  rw [Tryz.params3] at hA hval
  obtain ⟨v0, vs0, d0, ds0, p0, q0, hargs, rfl, rfl, h0, r0⟩ := trodAll_cons hA
  obtain ⟨rfl, rfl, rfl⟩ := trodAll_nil r0
  obtain rfl : args = #[v0] := by cases args; simp_all
  obtain ⟨rfl, rfl⟩ := trodVars_none hV
  have k0 := h0
  have lt0 : ∀ x ∈ p0, x.block < W.heap.size := by obtain ⟨m, hm⟩ := k0; exact DataW.trod_lt m _ _ _ hm
  obtain ⟨a0, l0, c0, rfl⟩ := okWide_slice Tryz.underlying22 (hval 0 22 v0 rfl rfl)
  have g0 : Hz W a0 l0 c0 := by obtain ⟨m, hm⟩ := h0; exact open_strs Tryz.underlying22 Tryz.underlying9 (by kernel_rfl) hm
  clear hA0 hval0
  refine (walk a0 l0 c0 W (Lu hL) g0).mono fun e W' ⟨he, Bw⟩ => ?_
  subst he
  exact ⟨_, rfl, _, _, _, [], _, [], hW', trodAll_mk1 (shut_bool Tryz.underlying4 _), (trodAll_cons_mk (Below.trod laidOut (by kernel_rfl) (of_decide_eq_true (by kernel_rfl)) k0 Bw lt0) trodAll_mk0), rfl, Bw.frame _, fun h => by cases h⟩

theorem c0 : ((Rows.fnExactRunDeskRow.wf (OpenSpec.ofChange Rows.fnExactRunDeskSpec)) && (laidOutB Tryz.prog) && (mapsRowed Tryz.prog) && (Tryz.f3.params.all (Tryz.prog.readableRec ·))) = true := by kernel_rfl
theorem c4 : ((namedTie Tryz.prog Rows.fnExactRunDeskRow.named Rows.fnExactRunDeskSpec.vars) && (Rows.fnExactRunDeskRow.stops == []) && (Tryz.prog.stops == []) && (Rows.fnExactRunDeskRow.knobs == [])) = true := by kernel_rfl
theorem c8 : ((Tryz.prog.stopKnobs == []) && (Rows.fnExactRunDeskRow.inPlace == Tryz.prog.inPlace 3) && (Rows.fnExactRunDeskRow.unfollowed == Tryz.prog.unfollowed 3) && (Rows.fnExactRunDeskRow.recurses == Tryz.prog.recurses 3)) = true := by kernel_rfl
theorem c12 : ((Rows.fnExactRunDeskRow.named == Tryz.prog.varsNamed 3) && ((Rows.fnExactRunDeskRow.maps == (Tryz.f3.params.toList ++ Rows.fnExactRunDeskSpec.plain.varTypes Tryz.prog).any (Tryz.prog.mapsRec ·))) && ((Rows.fnExactRunDeskRow.ifaces == (Tryz.f3.params.toList ++ Rows.fnExactRunDeskSpec.plain.varTypes Tryz.prog).any (Tryz.prog.ifacesRec ·))) && (Rows.fnExactRunDeskRow.mapsOut == Tryz.prog.mapsAmong Tryz.f3.resultTypes.toList)) = true := by kernel_rfl
theorem c16 : (((Rows.fnExactRunDeskRow.loops == (Tryz.f3.params.toList ++ Rows.fnExactRunDeskSpec.plain.varTypes Tryz.prog).any (Tryz.prog.loopsFrom ·))) && ((Rows.fnExactRunDeskRow.wideKeys == (Tryz.f3.params.toList ++ Rows.fnExactRunDeskSpec.plain.varTypes Tryz.prog ++ Tryz.f3.resultTypes.toList).any (Tryz.prog.wideKeysFrom ·))) && (Rows.fnExactRunDeskSpec.vars.all (Tryz.prog.varReadable ·)) && (Tryz.f3.resultTypes.all (fun t => Tryz.prog.readableRec t && decide (t < Tryz.prog.types.size)))) = true := by kernel_rfl
theorem c20 : (((Rows.fnExactRunDeskRow.ifacesOut == Tryz.f3.resultTypes.toList.any (Tryz.prog.ifacesRec ·))) && ((Rows.fnExactRunDeskRow.loopsOut == Tryz.f3.resultTypes.toList.any (Tryz.prog.loopsFrom ·))) && (Rows.fnExactRunDeskRow.plainKeys == Tryz.prog.plainKeys) && (Rows.fnExactRunDeskRow.shortTexts.isNone)) = true := by kernel_rfl
theorem c24 : ((Tryz.prog.stopsHeard) && (Tryz.prog.mayEnter) && (Rows.fnExactRunDeskRow.lifted == Tryz.prog.liftsFinal) && (Tryz.prog.make == some Rows.fnExactRunDeskRow.make)) = true := by kernel_rfl
theorem c28 : (((Rows.fnExactRunDeskRow.kinds == (if Rows.fnExactRunDeskRow.domain.isEmpty then [] else Tryz.f3.params.toList.map fun t => match Tryz.prog.underlying t with | some (.int k) => some k | _ => none))) && (Rows.fnExactRunDeskRow.pinned == Rows.fnExactRunDeskRow.pinnedBy) && ((Rows.fnExactRunDeskRow.veiled == (Tryz.f3.params.toList ++ Rows.fnExactRunDeskSpec.plain.varTypes Tryz.prog ++ Tryz.f3.resultTypes.toList).any (Tryz.prog.veiledRec ·))) && (Rows.fnExactRunDeskRow.veiledFits Tryz.prog Tryz.f3.params.toList (Tryz.f3.params.toList ++ Rows.fnExactRunDeskSpec.plain.varTypes Tryz.prog ++ Tryz.f3.resultTypes.toList))) = true := by kernel_rfl
set_option maxRecDepth 1000000 in
theorem closed : joinedFacts Tryz.prog 3 Tryz.f3 Rows.fnExactRunDeskSpec Rows.fnExactRunDeskRow = true := by
  unfold joinedFacts
  exact (dZ (dZ (dZ (dZ (dZ (dZ (dZ (dZ (dZ (dZ (dZ (dZ (dZ (dZ (dZ (dZ (dZ (dZ (dZ (dZ (dZ (dZ (dZ (dZ (dZ (dZ (dZ (dZ (dZ (dZ (dZ (bV (bV (bV c0))) (gF (bV (bV c0)))) (gF (bV c0))) (gF c0)) (bV (bV (bV c4)))) (gF (bV (bV c4)))) (gF (bV c4))) (gF c4)) (bV (bV (bV c8)))) (gF (bV (bV c8)))) (gF (bV c8))) (gF c8)) (bV (bV (bV c12)))) (gF (bV (bV c12)))) (gF (bV c12))) (gF c12)) (bV (bV (bV c16)))) (gF (bV (bV c16)))) (gF (bV c16))) (gF c16)) (bV (bV (bV c20)))) (gF (bV (bV c20)))) (gF (bV c20))) (gF c20)) (bV (bV (bV c24)))) (gF (bV (bV c24)))) (gF (bV c24))) (gF c24)) (bV (bV (bV c28)))) (gF (bV (bV c28)))) (gF (bV c28))) (gF c28))
theorem named : Tryz.prog.funcNamed Rows.fnExactRunDeskRow.func = some 3 := by kernel_rfl
theorem inst : Tryz.f3.isInstance Tryz.prog Rows.fnExactRunDeskRow.origin Rows.fnExactRunDeskRow.targs := of_decide_eq_true (by kernel_rfl)
theorem wrap : Tryz.f3.isWrapper Tryz.prog Rows.fnExactRunDeskRow.wrapper Rows.fnExactRunDeskRow.mainSum := by unfold Func.isWrapper; first | (rw [if_pos (by decide +kernel)]; kernel_rfl) | (rw [if_neg (by decide +kernel)]; exact ⟨rfl, rfl⟩)
theorem over : Rows.fnExactRunDeskRow.holds Tryz.pinned (OpenSpec.ofChange Rows.fnExactRunDeskSpec) :=
  OpenClaim.holds_of_wide 3 Tryz.f3 rfl rfl rfl rfl rfl rfl rfl ⟨rfl, rfl, rfl, rfl, rfl⟩ rfl rfl rfl rfl rfl named Tryz.func3 closed inst wrap
    (fun os started H enc _ => lifted os started H enc)

theorem proved : Rows.FnExactRunDeskCardSaid :=
  Claim7.holds_tied_plain_at .later [] [.data, .data, .data, .data, .handle, .pinned] true (true, "1cdade9d593a71752c89110f5081822b441e84cc37a1216c4a718e203753f591") true over (fun _ h => by cases h) (by kernel_rfl) (fun _ h => by cases h) fnExactRunDesk_row_tie rfl ⟨rfl, rfl⟩ (by kernel_rfl) rfl
    (fun f fn hf hfn => by
      obtain rfl : f = 3 := Option.some.inj ((show Tryz.prog.funcNamed "loop.example/transactionorders/laws.FnExactRunDesk" = some 3 by kernel_rfl).symm.trans hf) |>.symm
      obtain rfl : fn = Tryz.f3 := (Option.some.inj (Tryz.func3.symm.trans hfn)).symm
      exact ⟨by kernel_rfl, fun j t ht => by
        rw [Tryz.params3] at ht
        have hm : t ∈ [22] := by simpa using Array.mem_of_getElem? ht
        have hall : ([22].all fun u => !Tryz.prog.wantsStandIn u) = true := by kernel_rfl
        exact (show Tryz.prog.wantsStandIn t = false by simpa using List.all_eq_true.1 hall t hm)⟩)
    (by kernel_rfl)
#print axioms proved
end Go.Proofs.YtddkjbibjjehjaaGreatDoor.fnExactRunDesk

