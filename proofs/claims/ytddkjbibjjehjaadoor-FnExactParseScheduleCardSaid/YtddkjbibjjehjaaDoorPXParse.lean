/-
  The law FnExactParseSchedule holds for every input: the call returns true, and its arguments read afterwards as they read before. No condition.
-/
import Derived.Test.YtddkjbibjjehjaaDoorRows
import Derived.WalkKit
import Derived.ProofKit
import Derived.OpenShut
import Derived.ShutString
import Derived.ChangeOld
import Derived.Below
import Derived.LaidMore
import Derived.Lay
import Derived.SevenTiedAt
import Derived.Stop.Joined
import Derived.Test.YtddkjbibjjehjaaDoorCards
import Derived.Test.YtddkjbibjjehjaaDoorTie
import Derived.Test.YtddkjbibjjehjaaDoorOpen0
import Derived.Test.YtddkjbibjjehjaaDoorXParse
namespace Go.Proofs.YtddkjbibjjehjaaDoor.fnExactParseSchedule
open Go.ChangeShapes Go.WideShapes Go.ChangeAt Go.RowKit
open Go.ChangeMaps (open_string shut_string)
set_option linter.unusedVariables false

theorem own : ownKnob Tryd.prog.godebug = none := by kernel_rfl
theorem laidOut : laidOutB Tryd.prog = true := by kernel_rfl

theorem walk (s0 : ByteArray) (w : World) (g0 : s0.size ≤ maxLen) :
    Calls Tryd.prog 3 #[.string s0] w fun e w' => e = .returned (.bool true) ∧ Below w.heap.size w w' := exact_parse s0 w g0
set_option maxRecDepth 100000 in
theorem lifted (os : Os) (started : os.Started) (H : Type) (enc : TypeId × Value → H) :
    ReturnsInHanded {} Tryd.checked os 3 .any (fun w args => (Rows.fnExactParseScheduleSpec.pre enc Tryd.prog Tryd.f3 Rows.fnExactParseScheduleRow.domain false w args ∧ laidMetH Tryd.prog Rows.fnExactParseScheduleRow.laid w) ∧ sizedMet enc Tryd.prog Tryd.f3 (OpenSpec.ofChange Rows.fnExactParseScheduleSpec) false w args)
      (Rows.fnExactParseScheduleSpec.post enc Tryd.prog Tryd.f3 false true false false) := by
  refine returnsInHanded_of_change_and (C := Tryd.checked) (X := fun w _ => laidMetH Tryd.prog Rows.fnExactParseScheduleRow.laid w) (fun _ _ _ hh h => h.of_heap hh) own started (by kernel_rfl) Tryd.func3
    (ChangeSpec.witness_shaped (enc := enc) (C := Tryd.checked) (os := os) (X := fun w _ => laidMetH Tryd.prog Rows.fnExactParseScheduleRow.laid w) false (World.laidAll Tryd.prog os Rows.fnExactParseScheduleRow.laid) #[.string ⟨#[]⟩] 8 (World.laidAll_os _ _ _)
      (World.shaped_of_ZipB (by kernel_rfl) (by kernel_rfl)) (by kernel_rfl) (by kernel_rfl) (by kernel_rfl)
      (by rw [MakeChecks.laidMetH_plain _ _ _ (by kernel_rfl)]; exact laidMet_laidAll _ (by kernel_rfl) (by kernel_rfl))) ?_
  intro W base args ds gs before hval0 hW hcnd _ hL _
  have hval : ∀ (j : Nat) t v, Tryd.f3.params[j]? = some t → args[j]? = some v → Value.okWide Tryd.prog W .any base t v := hval0
  have hW' := hW
  obtain ⟨p, q, hA0, hV, rfl, hfz, hnd⟩ := hW
  have hA : DataW.TrodAll enc Tryd.prog W 0 (fun _ => true) true Tryd.f3.params.toList args.toList ds p := hA0
  rw [Tryd.params3] at hA hval
  obtain ⟨v0, vs0, d0, ds0, p0, q0, hargs, rfl, rfl, h0, r0⟩ := trodAll_cons hA
  obtain ⟨rfl, rfl, rfl⟩ := trodAll_nil r0
  obtain rfl : args = #[v0] := by cases args; simp_all
  obtain ⟨rfl, rfl⟩ := trodVars_none hV
  have k0 := h0
  have lt0 : ∀ x ∈ p0, x.block < W.heap.size := by obtain ⟨m, hm⟩ := k0; exact DataW.trod_lt m _ _ _ hm
  obtain ⟨s0, rfl, _, _, g0⟩ := open_string Tryd.underlying9 (hval 0 9 v0 rfl rfl) h0
  clear hA0 hval0
  refine (walk s0 W g0).mono fun e W' ⟨he, bel⟩ => ?_
  subst he
  exact ⟨_, rfl, _, _, _, [], _, [], hW', trodAll_mk1 (shut_bool Tryd.underlying4 _), (trodAll_cons_mk (Below.trod laidOut (by kernel_rfl) (of_decide_eq_true (by kernel_rfl)) k0 bel lt0) trodAll_mk0), rfl, bel.frame _, fun h => by cases h⟩

theorem c0 : ((Rows.fnExactParseScheduleRow.wf (OpenSpec.ofChange Rows.fnExactParseScheduleSpec)) && (laidOutB Tryd.prog) && (mapsRowed Tryd.prog) && (Tryd.f3.params.all (Tryd.prog.readableRec ·))) = true := by kernel_rfl
theorem c4 : ((namedTie Tryd.prog Rows.fnExactParseScheduleRow.named Rows.fnExactParseScheduleSpec.vars) && (Rows.fnExactParseScheduleRow.stops == []) && (Tryd.prog.stops == []) && (Rows.fnExactParseScheduleRow.knobs == [])) = true := by kernel_rfl
theorem c8 : ((Tryd.prog.stopKnobs == []) && (Rows.fnExactParseScheduleRow.inPlace == Tryd.prog.inPlace 3) && (Rows.fnExactParseScheduleRow.unfollowed == Tryd.prog.unfollowed 3) && (Rows.fnExactParseScheduleRow.recurses == Tryd.prog.recurses 3)) = true := by kernel_rfl
theorem c12 : ((Rows.fnExactParseScheduleRow.named == Tryd.prog.varsNamed 3) && ((Rows.fnExactParseScheduleRow.maps == (Tryd.f3.params.toList ++ Rows.fnExactParseScheduleSpec.plain.varTypes Tryd.prog).any (Tryd.prog.mapsRec ·))) && ((Rows.fnExactParseScheduleRow.ifaces == (Tryd.f3.params.toList ++ Rows.fnExactParseScheduleSpec.plain.varTypes Tryd.prog).any (Tryd.prog.ifacesRec ·))) && (Rows.fnExactParseScheduleRow.mapsOut == Tryd.prog.mapsAmong Tryd.f3.resultTypes.toList)) = true := by kernel_rfl
theorem c16 : (((Rows.fnExactParseScheduleRow.loops == (Tryd.f3.params.toList ++ Rows.fnExactParseScheduleSpec.plain.varTypes Tryd.prog).any (Tryd.prog.loopsFrom ·))) && ((Rows.fnExactParseScheduleRow.wideKeys == (Tryd.f3.params.toList ++ Rows.fnExactParseScheduleSpec.plain.varTypes Tryd.prog ++ Tryd.f3.resultTypes.toList).any (Tryd.prog.wideKeysFrom ·))) && (Rows.fnExactParseScheduleSpec.vars.all (Tryd.prog.varReadable ·)) && (Tryd.f3.resultTypes.all (fun t => Tryd.prog.readableRec t && decide (t < Tryd.prog.types.size)))) = true := by kernel_rfl
theorem c20 : (((Rows.fnExactParseScheduleRow.ifacesOut == Tryd.f3.resultTypes.toList.any (Tryd.prog.ifacesRec ·))) && ((Rows.fnExactParseScheduleRow.loopsOut == Tryd.f3.resultTypes.toList.any (Tryd.prog.loopsFrom ·))) && (Rows.fnExactParseScheduleRow.plainKeys == Tryd.prog.plainKeys) && (Rows.fnExactParseScheduleRow.shortTexts.isNone)) = true := by kernel_rfl
theorem c24 : ((Tryd.prog.stopsHeard) && (Tryd.prog.mayEnter) && (Rows.fnExactParseScheduleRow.lifted == Tryd.prog.liftsFinal) && (Tryd.prog.make == some Rows.fnExactParseScheduleRow.make)) = true := by kernel_rfl
theorem c28 : (((Rows.fnExactParseScheduleRow.kinds == (if Rows.fnExactParseScheduleRow.domain.isEmpty then [] else Tryd.f3.params.toList.map fun t => match Tryd.prog.underlying t with | some (.int k) => some k | _ => none))) && (Rows.fnExactParseScheduleRow.pinned == Rows.fnExactParseScheduleRow.pinnedBy) && ((Rows.fnExactParseScheduleRow.veiled == (Tryd.f3.params.toList ++ Rows.fnExactParseScheduleSpec.plain.varTypes Tryd.prog ++ Tryd.f3.resultTypes.toList).any (Tryd.prog.veiledRec ·))) && (Rows.fnExactParseScheduleRow.veiledFits Tryd.prog Tryd.f3.params.toList (Tryd.f3.params.toList ++ Rows.fnExactParseScheduleSpec.plain.varTypes Tryd.prog ++ Tryd.f3.resultTypes.toList))) = true := by kernel_rfl
set_option maxRecDepth 1000000 in
theorem closed : joinedFacts Tryd.prog 3 Tryd.f3 Rows.fnExactParseScheduleSpec Rows.fnExactParseScheduleRow = true := by
  unfold joinedFacts
  exact (and2 (and2 (and2 (and2 (and2 (and2 (and2 (and2 (and2 (and2 (and2 (and2 (and2 (and2 (and2 (and2 (and2 (and2 (and2 (and2 (and2 (and2 (and2 (and2 (and2 (and2 (and2 (and2 (and2 (and2 (and2 (andL (andL (andL c0))) (andR (andL (andL c0)))) (andR (andL c0))) (andR c0)) (andL (andL (andL c4)))) (andR (andL (andL c4)))) (andR (andL c4))) (andR c4)) (andL (andL (andL c8)))) (andR (andL (andL c8)))) (andR (andL c8))) (andR c8)) (andL (andL (andL c12)))) (andR (andL (andL c12)))) (andR (andL c12))) (andR c12)) (andL (andL (andL c16)))) (andR (andL (andL c16)))) (andR (andL c16))) (andR c16)) (andL (andL (andL c20)))) (andR (andL (andL c20)))) (andR (andL c20))) (andR c20)) (andL (andL (andL c24)))) (andR (andL (andL c24)))) (andR (andL c24))) (andR c24)) (andL (andL (andL c28)))) (andR (andL (andL c28)))) (andR (andL c28))) (andR c28))
theorem named : Tryd.prog.funcNamed Rows.fnExactParseScheduleRow.func = some 3 := by kernel_rfl
theorem inst : Tryd.f3.isInstance Tryd.prog Rows.fnExactParseScheduleRow.origin Rows.fnExactParseScheduleRow.targs := of_decide_eq_true (by kernel_rfl)
theorem wrap : Tryd.f3.isWrapper Tryd.prog Rows.fnExactParseScheduleRow.wrapper Rows.fnExactParseScheduleRow.mainSum := by unfold Func.isWrapper; first | (rw [if_pos (by decide +kernel)]; kernel_rfl) | (rw [if_neg (by decide +kernel)]; exact ⟨rfl, rfl⟩)
theorem over : Rows.fnExactParseScheduleRow.holds Tryd.pinned (OpenSpec.ofChange Rows.fnExactParseScheduleSpec) :=
  OpenClaim.holds_of_wide 3 Tryd.f3 rfl rfl rfl rfl rfl rfl rfl ⟨rfl, rfl, rfl, rfl, rfl⟩ rfl rfl rfl rfl rfl named Tryd.func3 closed inst wrap
    (fun os started H enc _ => lifted os started H enc)

theorem proved : Rows.FnExactParseScheduleCardSaid :=
  Claim7.holds_tied_plain_at .later [] [.data, .pinned] true (true, "49a2f9b836dad61538524789aac40066506c71f2257416545cb256b2d5ad79b1") false over (fun _ h => by cases h) (by kernel_rfl) (fun _ h => by cases h) fnExactParseSchedule_row_tie rfl ⟨rfl, rfl⟩ (by kernel_rfl) rfl
    (fun f fn hf hfn => by
      obtain rfl : f = 3 := Option.some.inj ((show Tryd.prog.funcNamed "loop.example/transactionorders/laws.FnExactParseSchedule" = some 3 by kernel_rfl).symm.trans hf) |>.symm
      obtain rfl : fn = Tryd.f3 := (Option.some.inj (Tryd.func3.symm.trans hfn)).symm
      exact ⟨by kernel_rfl, fun j t ht => by
        rw [Tryd.params3] at ht
        have hm : t ∈ [9] := by simpa using Array.mem_of_getElem? ht
        have hall : ([9].all fun u => !Tryd.prog.wantsStandIn u) = true := by kernel_rfl
        exact (show Tryd.prog.wantsStandIn t = false by simpa using List.all_eq_true.1 hall t hm)⟩)
    (by kernel_rfl)
#print axioms proved
end Go.Proofs.YtddkjbibjjehjaaDoor.fnExactParseSchedule

