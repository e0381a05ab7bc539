/-
  The law FnRunStamps holds for every input: the call returns true, and its arguments read afterwards as they read before. No condition.
-/
import Derived.Test.YtncebpmckbcabaaRows
import Derived.WalkKit
import Derived.ProofKit
import Derived.OpenShut
import Derived.ShutString
import Derived.ChangeOld
import Derived.Below
import Derived.Test.YtncebpmckbcabaaSSt1
import Derived.Test.YtncebpmckbcabaaSSt24
namespace Go.Proofs.Ytncebpmckbcabaa.fnRunStamps
open Go.ChangeShapes Go.WideShapes Go.ChangeAt Go.RowKit
open Go.ChangeMaps (open_string shut_string)
set_option linter.unusedVariables false

theorem own : ownKnob Try.prog.godebug = none := by kernel_rfl
theorem laidOut : laidOutB Try.prog = true := by kernel_rfl

theorem walk (a0 : Option Addr) (l0 c0 : Nat) (w : World) (g0 : BytesIn w a0 l0 c0) :
    Calls Try.prog 7 #[.slice a0 l0 c0] w fun e w' => e = .returned (.bool true) ∧ Below w.heap.size w w' := law_runStamps a0 l0 c0 w g0
set_option maxRecDepth 100000 in
theorem lifted (os : Os) (started : os.Started) (H : Type) (enc : TypeId × Value → H) :
    ReturnsInHanded {} Try.checked os 7 .any (Rows.fnRunStampsSpec.pre6 enc Try.prog Try.f7 Rows.fnRunStampsRow.domain false) (Rows.fnRunStampsSpec.post enc Try.prog Try.f7 false true false false) := by
  refine returnsInHanded_of_change (C := Try.checked) own started (by kernel_rfl) Try.func7
    (ChangeSpec.witness6 (enc := enc) (C := Try.checked) false ⟨#[], #[.slice none 0 0], []⟩ 8 (by kernel_rfl) (by kernel_rfl) (by kernel_rfl) (by kernel_rfl)) ?_
  intro W base args ds gs before hval0 hW hcnd _
  have hval : ∀ (j : Nat) t v, Try.f7.params[j]? = some t → args[j]? = some v → Value.okWide Try.prog W .any base t v := hval0
  have hW' := hW
  obtain ⟨p, q, hA0, hV, rfl, hfz, hnd⟩ := hW
  have hA : DataW.TrodAll enc Try.prog W 0 (fun _ => true) true Try.f7.params.toList args.toList ds p := hA0
  rw [Try.params7] at hA hval
  obtain ⟨v0, vs0, d0, ds0, p0, q0, hargs, rfl, rfl, h0, r0⟩ := trodAll_cons hA
  obtain ⟨rfl, rfl, rfl⟩ := trodAll_nil r0
  obtain rfl : args = #[v0] := by cases args; simp_all
  obtain ⟨rfl, rfl⟩ := trodVars_none hV
  have k0 := h0
  have lt0 : ∀ x ∈ p0, x.block < W.heap.size := by obtain ⟨m, hm⟩ := k0; exact DataW.trod_lt m _ _ _ hm
  obtain ⟨a0, l0, c0, rfl⟩ := okWide_slice Try.underlying37 (hval 0 37 v0 rfl rfl)
  have g0 := open_bytes Try.underlying37 Try.underlying5 (by kernel_rfl) h0
  clear hA0 hval0
  refine (walk a0 l0 c0 W g0).mono fun e W' ⟨he, bel⟩ => ?_
  subst he
  exact ⟨_, rfl, _, _, _, [], _, [], hW', trodAll_mk1 (shut_bool Try.underlying4 _), (trodAll_cons_mk (Below.trod laidOut (by kernel_rfl) (of_decide_eq_true (by kernel_rfl)) k0 bel lt0) trodAll_mk0), rfl, bel.frame _, fun h => by cases h⟩

theorem c0 : ((Rows.fnRunStampsRow.wf (OpenSpec.ofChange Rows.fnRunStampsSpec)) && (laidOutB Try.prog) && (mapsRowed Try.prog) && (Try.f7.params.all (Try.prog.readableRec ·))) = true := by kernel_rfl
theorem c4 : ((namedTie Try.prog Rows.fnRunStampsRow.named Rows.fnRunStampsSpec.vars) && (Rows.fnRunStampsRow.stops == []) && (Try.prog.stops == []) && (Rows.fnRunStampsRow.knobs == [])) = true := by kernel_rfl
theorem c8 : ((Try.prog.stopKnobs == []) && (Rows.fnRunStampsRow.inPlace == Try.prog.inPlace 7) && (Rows.fnRunStampsRow.unfollowed == Try.prog.unfollowed 7) && (Rows.fnRunStampsRow.recurses == Try.prog.recurses 7)) = true := by kernel_rfl
theorem c12 : ((Rows.fnRunStampsRow.named == Try.prog.varsNamed 7) && ((Rows.fnRunStampsRow.maps == (Try.f7.params.toList ++ Rows.fnRunStampsSpec.plain.varTypes Try.prog).any (Try.prog.mapsRec ·))) && ((Rows.fnRunStampsRow.ifaces == (Try.f7.params.toList ++ Rows.fnRunStampsSpec.plain.varTypes Try.prog).any (Try.prog.ifacesRec ·))) && (Rows.fnRunStampsRow.mapsOut == Try.prog.mapsAmong Try.f7.resultTypes.toList)) = true := by kernel_rfl
theorem c16 : (((Rows.fnRunStampsRow.loops == (Try.f7.params.toList ++ Rows.fnRunStampsSpec.plain.varTypes Try.prog).any (Try.prog.loopsFrom ·))) && ((Rows.fnRunStampsRow.wideKeys == (Try.f7.params.toList ++ Rows.fnRunStampsSpec.plain.varTypes Try.prog ++ Try.f7.resultTypes.toList).any (Try.prog.wideKeysFrom ·))) && (Rows.fnRunStampsSpec.vars.all (Try.prog.varReadable ·)) && (Try.f7.resultTypes.all (fun t => Try.prog.readableRec t && decide (t < Try.prog.types.size)))) = true := by kernel_rfl
theorem c20 : (((Rows.fnRunStampsRow.ifacesOut == Try.f7.resultTypes.toList.any (Try.prog.ifacesRec ·))) && ((Rows.fnRunStampsRow.loopsOut == Try.f7.resultTypes.toList.any (Try.prog.loopsFrom ·))) && (Rows.fnRunStampsRow.plainKeys == Try.prog.plainKeys) && (Rows.fnRunStampsRow.shortTexts.isNone)) = true := by kernel_rfl
theorem c24 : ((Try.prog.stopsHeard) && (Try.prog.mayEnter) && (Rows.fnRunStampsRow.lifted == Try.prog.liftsFinal) && (Try.prog.make == some Rows.fnRunStampsRow.make)) = true := by kernel_rfl
theorem c28 : (((Rows.fnRunStampsRow.kinds == (if Rows.fnRunStampsRow.domain.isEmpty then [] else Try.f7.params.toList.map fun t => match Try.prog.underlying t with | some (.int k) => some k | _ => none))) && (Rows.fnRunStampsRow.pinned == Rows.fnRunStampsRow.pinnedBy) && ((Rows.fnRunStampsRow.veiled == (Try.f7.params.toList ++ Rows.fnRunStampsSpec.plain.varTypes Try.prog ++ Try.f7.resultTypes.toList).any (Try.prog.veiledRec ·))) && (Rows.fnRunStampsRow.veiledFits Try.prog Try.f7.params.toList (Try.f7.params.toList ++ Rows.fnRunStampsSpec.plain.varTypes Try.prog ++ Try.f7.resultTypes.toList))) = true := by kernel_rfl
set_option maxRecDepth 1000000 in
theorem closed : joinedFacts Try.prog 7 Try.f7 Rows.fnRunStampsSpec Rows.fnRunStampsRow = true := by
  unfold joinedFacts
  exact (and2 (and2 (and2 (and2 (and2 (and2 (and2 (and2 (and2 (and2 (and2 (and2 (and2 (and2 (and2 (and2 (and2 (and2 (and2 (and2 (and2 (and2 (and2 (and2 (and2 (and2 (and2 (and2 (and2 (and2 (and2 (andL (andL (andL c0))) (andR (andL (andL c0)))) (andR (andL c0))) (andR c0)) (andL (andL (andL c4)))) (andR (andL (andL c4)))) (andR (andL c4))) (andR c4)) (andL (andL (andL c8)))) (andR (andL (andL c8)))) (andR (andL c8))) (andR c8)) (andL (andL (andL c12)))) (andR (andL (andL c12)))) (andR (andL c12))) (andR c12)) (andL (andL (andL c16)))) (andR (andL (andL c16)))) (andR (andL c16))) (andR c16)) (andL (andL (andL c20)))) (andR (andL (andL c20)))) (andR (andL c20))) (andR c20)) (andL (andL (andL c24)))) (andR (andL (andL c24)))) (andR (andL c24))) (andR c24)) (andL (andL (andL c28)))) (andR (andL (andL c28)))) (andR (andL c28))) (andR c28))
theorem named : Try.prog.funcNamed Rows.fnRunStampsRow.func = some 7 := by kernel_rfl
theorem inst : Try.f7.isInstance Try.prog Rows.fnRunStampsRow.origin Rows.fnRunStampsRow.targs := of_decide_eq_true (by kernel_rfl)
theorem wrap : Try.f7.isWrapper Try.prog Rows.fnRunStampsRow.wrapper Rows.fnRunStampsRow.mainSum := by unfold Func.isWrapper; first | (rw [if_pos (by decide +kernel)]; kernel_rfl) | (rw [if_neg (by decide +kernel)]; exact ⟨rfl, rfl⟩)
theorem over : Rows.fnRunStampsRow.holds Try.pinned (OpenSpec.ofChange Rows.fnRunStampsSpec) :=
  OpenClaim.holds_of_wide 7 Try.f7 rfl rfl rfl rfl rfl rfl rfl ⟨rfl, rfl, rfl, rfl, rfl⟩ rfl rfl rfl rfl rfl named Try.func7 closed inst wrap
    (fun os started H enc _ => lifted os started H enc)

theorem proved : Rows.FnRunStampsSaid := over
#print axioms proved
end Go.Proofs.Ytncebpmckbcabaa.fnRunStamps

