/-
  The law FnParseSchedule holds for every input: the call returns true, and its arguments read afterwards as they read before. No condition.
-/
import Derived.Test.YtddkjbibjjehjaaDoorRows
import Derived.WalkKit
import Derived.ProofKit
import Derived.OpenShut
import Derived.ShutString
import Derived.ChangeOld
import Derived.Below
import Derived.LaidMore
import Derived.Lay
import Derived.SevenTiedAt
import Derived.Stop.Joined
import Derived.Test.YtddkjbibjjehjaaDoorCards
import Derived.Test.YtddkjbibjjehjaaDoorTie
import Derived.Test.YtddkjbibjjehjaaDoorOpen0
import Derived.Test.YtddkjbibjjehjaaDoorLParseSchedule
namespace Go.Proofs.YtddkjbibjjehjaaDoor.fnParseSchedule
open Go.ChangeShapes Go.WideShapes Go.ChangeAt Go.RowKit
open Go.ChangeMaps (open_string shut_string)
set_option linter.unusedVariables false

theorem own : ownKnob Tryd.prog.godebug = none := by kernel_rfl
theorem laidOut : laidOutB Tryd.prog = true := by kernel_rfl

theorem walk (a0 : Option Addr) (l0 c0 : Nat) (w : World) (g0 : BytesIn w a0 l0 c0) :
    Calls Tryd.prog 5 #[.slice a0 l0 c0] w fun e w' => e = .returned (.bool true) ∧ Below w.heap.size w w' := law_parseSchedule a0 l0 c0 w g0
set_option maxRecDepth 100000 in
theorem lifted (os : Os) (started : os.Started) (H : Type) (enc : TypeId × Value → H) :
    ReturnsInHanded {} Tryd.checked os 5 .any (fun w args => (Rows.fnParseScheduleSpec.pre enc Tryd.prog Tryd.f5 Rows.fnParseScheduleRow.domain false w args ∧ laidMetH Tryd.prog Rows.fnParseScheduleRow.laid w) ∧ sizedMet enc Tryd.prog Tryd.f5 (OpenSpec.ofChange Rows.fnParseScheduleSpec) false w args)
      (Rows.fnParseScheduleSpec.post enc Tryd.prog Tryd.f5 false true false false) := by
  refine returnsInHanded_of_change_and (C := Tryd.checked) (X := fun w _ => laidMetH Tryd.prog Rows.fnParseScheduleRow.laid w) (fun _ _ _ hh h => h.of_heap hh) own started (by kernel_rfl) Tryd.func5
    (ChangeSpec.witness_shaped (enc := enc) (C := Tryd.checked) (os := os) (X := fun w _ => laidMetH Tryd.prog Rows.fnParseScheduleRow.laid w) false (World.laidAll Tryd.prog os Rows.fnParseScheduleRow.laid) #[.slice none 0 0] 8 (World.laidAll_os _ _ _)
      (World.shaped_of_ZipB (by kernel_rfl) (by kernel_rfl)) (by kernel_rfl) (by kernel_rfl) (by kernel_rfl)
      (by rw [MakeChecks.laidMetH_plain _ _ _ (by kernel_rfl)]; exact laidMet_laidAll _ (by kernel_rfl) (by kernel_rfl))) ?_
  intro W base args ds gs before hval0 hW hcnd _ hL _
  have hval : ∀ (j : Nat) t v, Tryd.f5.params[j]? = some t → args[j]? = some v → Value.okWide Tryd.prog W .any base t v := hval0
  have hW' := hW
  obtain ⟨p, q, hA0, hV, rfl, hfz, hnd⟩ := hW
  have hA : DataW.TrodAll enc Tryd.prog W 0 (fun _ => true) true Tryd.f5.params.toList args.toList ds p := hA0
  rw [Tryd.params5] at hA hval
  obtain ⟨v0, vs0, d0, ds0, p0, q0, hargs, rfl, rfl, h0, r0⟩ := trodAll_cons hA
  obtain ⟨rfl, rfl, rfl⟩ := trodAll_nil r0
  obtain rfl : args = #[v0] := by cases args; simp_all
  obtain ⟨rfl, rfl⟩ := trodVars_none hV
  have k0 := h0
  have lt0 : ∀ x ∈ p0, x.block < W.heap.size := by obtain ⟨m, hm⟩ := k0; exact DataW.trod_lt m _ _ _ hm
  obtain ⟨a0, l0, c0, rfl⟩ := okWide_slice Tryd.underlying28 (hval 0 28 v0 rfl rfl)
  have g0 := open_bytes Tryd.underlying28 Tryd.underlying5 (by kernel_rfl) h0
  clear hA0 hval0
  refine (walk a0 l0 c0 W g0).mono fun e W' ⟨he, bel⟩ => ?_
  subst he
  exact ⟨_, rfl, _, _, _, [], _, [], hW', trodAll_mk1 (shut_bool Tryd.underlying4 _), (trodAll_cons_mk (Below.trod laidOut (by kernel_rfl) (of_decide_eq_true (by kernel_rfl)) k0 bel lt0) trodAll_mk0), rfl, bel.frame _, fun h => by cases h⟩

theorem c0 : ((Rows.fnParseScheduleRow.wf (OpenSpec.ofChange Rows.fnParseScheduleSpec)) && (laidOutB Tryd.prog) && (mapsRowed Tryd.prog) && (Tryd.f5.params.all (Tryd.prog.readableRec ·))) = true := by kernel_rfl
theorem c4 : ((namedTie Tryd.prog Rows.fnParseScheduleRow.named Rows.fnParseScheduleSpec.vars) && (Rows.fnParseScheduleRow.stops == []) && (Tryd.prog.stops == []) && (Rows.fnParseScheduleRow.knobs == [])) = true := by kernel_rfl
theorem c8 : ((Tryd.prog.stopKnobs == []) && (Rows.fnParseScheduleRow.inPlace == Tryd.prog.inPlace 5) && (Rows.fnParseScheduleRow.unfollowed == Tryd.prog.unfollowed 5) && (Rows.fnParseScheduleRow.recurses == Tryd.prog.recurses 5)) = true := by kernel_rfl
theorem c12 : ((Rows.fnParseScheduleRow.named == Tryd.prog.varsNamed 5) && ((Rows.fnParseScheduleRow.maps == (Tryd.f5.params.toList ++ Rows.fnParseScheduleSpec.plain.varTypes Tryd.prog).any (Tryd.prog.mapsRec ·))) && ((Rows.fnParseScheduleRow.ifaces == (Tryd.f5.params.toList ++ Rows.fnParseScheduleSpec.plain.varTypes Tryd.prog).any (Tryd.prog.ifacesRec ·))) && (Rows.fnParseScheduleRow.mapsOut == Tryd.prog.mapsAmong Tryd.f5.resultTypes.toList)) = true := by kernel_rfl
theorem c16 : (((Rows.fnParseScheduleRow.loops == (Tryd.f5.params.toList ++ Rows.fnParseScheduleSpec.plain.varTypes Tryd.prog).any (Tryd.prog.loopsFrom ·))) && ((Rows.fnParseScheduleRow.wideKeys == (Tryd.f5.params.toList ++ Rows.fnParseScheduleSpec.plain.varTypes Tryd.prog ++ Tryd.f5.resultTypes.toList).any (Tryd.prog.wideKeysFrom ·))) && (Rows.fnParseScheduleSpec.vars.all (Tryd.prog.varReadable ·)) && (Tryd.f5.resultTypes.all (fun t => Tryd.prog.readableRec t && decide (t < Tryd.prog.types.size)))) = true := by kernel_rfl
theorem c20 : (((Rows.fnParseScheduleRow.ifacesOut == Tryd.f5.resultTypes.toList.any (Tryd.prog.ifacesRec ·))) && ((Rows.fnParseScheduleRow.loopsOut == Tryd.f5.resultTypes.toList.any (Tryd.prog.loopsFrom ·))) && (Rows.fnParseScheduleRow.plainKeys == Tryd.prog.plainKeys) && (Rows.fnParseScheduleRow.shortTexts.isNone)) = true := by kernel_rfl
theorem c24 : ((Tryd.prog.stopsHeard) && (Tryd.prog.mayEnter) && (Rows.fnParseScheduleRow.lifted == Tryd.prog.liftsFinal) && (Tryd.prog.make == some Rows.fnParseScheduleRow.make)) = true := by kernel_rfl
theorem c28 : (((Rows.fnParseScheduleRow.kinds == (if Rows.fnParseScheduleRow.domain.isEmpty then [] else Tryd.f5.params.toList.map fun t => match Tryd.prog.underlying t with | some (.int k) => some k | _ => none))) && (Rows.fnParseScheduleRow.pinned == Rows.fnParseScheduleRow.pinnedBy) && ((Rows.fnParseScheduleRow.veiled == (Tryd.f5.params.toList ++ Rows.fnParseScheduleSpec.plain.varTypes Tryd.prog ++ Tryd.f5.resultTypes.toList).any (Tryd.prog.veiledRec ·))) && (Rows.fnParseScheduleRow.veiledFits Tryd.prog Tryd.f5.params.toList (Tryd.f5.params.toList ++ Rows.fnParseScheduleSpec.plain.varTypes Tryd.prog ++ Tryd.f5.resultTypes.toList))) = true := by kernel_rfl
set_option maxRecDepth 1000000 in
theorem closed : joinedFacts Tryd.prog 5 Tryd.f5 Rows.fnParseScheduleSpec Rows.fnParseScheduleRow = true := by
  unfold joinedFacts
  exact (and2 (and2 (and2 (and2 (and2 (and2 (and2 (and2 (and2 (and2 (and2 (and2 (and2 (and2 (and2 (and2 (and2 (and2 (and2 (and2 (and2 (and2 (and2 (and2 (and2 (and2 (and2 (and2 (and2 (and2 (and2 (andL (andL (andL c0))) (andR (andL (andL c0)))) (andR (andL c0))) (andR c0)) (andL (andL (andL c4)))) (andR (andL (andL c4)))) (andR (andL c4))) (andR c4)) (andL (andL (andL c8)))) (andR (andL (andL c8)))) (andR (andL c8))) (andR c8)) (andL (andL (andL c12)))) (andR (andL (andL c12)))) (andR (andL c12))) (andR c12)) (andL (andL (andL c16)))) (andR (andL (andL c16)))) (andR (andL c16))) (andR c16)) (andL (andL (andL c20)))) (andR (andL (andL c20)))) (andR (andL c20))) (andR c20)) (andL (andL (andL c24)))) (andR (andL (andL c24)))) (andR (andL c24))) (andR c24)) (andL (andL (andL c28)))) (andR (andL (andL c28)))) (andR (andL c28))) (andR c28))
theorem named : Tryd.prog.funcNamed Rows.fnParseScheduleRow.func = some 5 := by kernel_rfl
theorem inst : Tryd.f5.isInstance Tryd.prog Rows.fnParseScheduleRow.origin Rows.fnParseScheduleRow.targs := of_decide_eq_true (by kernel_rfl)
theorem wrap : Tryd.f5.isWrapper Tryd.prog Rows.fnParseScheduleRow.wrapper Rows.fnParseScheduleRow.mainSum := by unfold Func.isWrapper; first | (rw [if_pos (by decide +kernel)]; kernel_rfl) | (rw [if_neg (by decide +kernel)]; exact ⟨rfl, rfl⟩)
theorem over : Rows.fnParseScheduleRow.holds Tryd.pinned (OpenSpec.ofChange Rows.fnParseScheduleSpec) :=
  OpenClaim.holds_of_wide 5 Tryd.f5 rfl rfl rfl rfl rfl rfl rfl ⟨rfl, rfl, rfl, rfl, rfl⟩ rfl rfl rfl rfl rfl named Tryd.func5 closed inst wrap
    (fun os started H enc _ => lifted os started H enc)

theorem proved : Rows.FnParseScheduleCardSaid :=
  Claim7.holds_tied_plain_at .later [] [.data, .pinned] true (true, "49a2f9b836dad61538524789aac40066506c71f2257416545cb256b2d5ad79b1") false over (fun _ h => by cases h) (by kernel_rfl) (fun _ h => by cases h) fnParseSchedule_row_tie rfl ⟨rfl, rfl⟩ (by kernel_rfl) rfl
    (fun f fn hf hfn => by
      obtain rfl : f = 5 := Option.some.inj ((show Tryd.prog.funcNamed "loop.example/transactionorders/laws.FnParseSchedule" = some 5 by kernel_rfl).symm.trans hf) |>.symm
      obtain rfl : fn = Tryd.f5 := (Option.some.inj (Tryd.func5.symm.trans hfn)).symm
      exact ⟨by kernel_rfl, fun j t ht => by
        rw [Tryd.params5] at ht
        have hm : t ∈ [28] := by simpa using Array.mem_of_getElem? ht
        have hall : ([28].all fun u => !Tryd.prog.wantsStandIn u) = true := by kernel_rfl
        exact (show Tryd.prog.wantsStandIn t = false by simpa using List.all_eq_true.1 hall t hm)⟩)
    (by kernel_rfl)
#print axioms proved
end Go.Proofs.YtddkjbibjjehjaaDoor.fnParseSchedule

