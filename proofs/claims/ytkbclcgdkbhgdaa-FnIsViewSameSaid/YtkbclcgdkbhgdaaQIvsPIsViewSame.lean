/-
  The law FnIsViewSame holds for every input: the call returns true, and its arguments read afterwards as they read before. No condition.
-/
import Derived.Test.YtkbclcgdkbhgdaaRows
import Derived.WalkKit
import Derived.ProofKit
import Derived.OpenShut
import Derived.ShutString
import Derived.ChangeOld
import Derived.Below
import Derived.Test.YtkbclcgdkbhgdaaPkOrdX1
import Derived.Test.YtkbclcgdkbhgdaaQIvsLIsViewSame
namespace Go.Proofs.Ytkbclcgdkbhgdaa.fnIsViewSame
open Go.ChangeShapes Go.WideShapes Go.ChangeAt Go.RowKit
open Go.ChangeMaps (open_string shut_string)
set_option linter.unusedVariables false

theorem own : ownKnob Try.prog.godebug = none := by kernel_rfl
theorem laidOut : laidOutB Try.prog = true := by kernel_rfl

theorem walk (a0 : Option Addr) (l0 c0 : Nat) (w : World) (g0 : BytesIn w a0 l0 c0) :
    Calls Try.prog 11 #[.slice a0 l0 c0] w fun e w' => e = .returned (.bool true) ∧ Below w.heap.size w w' := law_isViewSame a0 l0 c0 w g0
set_option maxRecDepth 100000 in
theorem lifted (os : Os) (started : os.Started) (H : Type) (enc : TypeId × Value → H) :
    ReturnsInHanded {} Try.checked os 11 .any (Rows.fnIsViewSameSpec.pre6 enc Try.prog Try.f11 Rows.fnIsViewSameRow.domain false) (Rows.fnIsViewSameSpec.post enc Try.prog Try.f11 false true false false) := by
  refine returnsInHanded_of_change (C := Try.checked) own started (by kernel_rfl) Try.func11
    (ChangeSpec.witness6 (enc := enc) (C := Try.checked) false ⟨#[], #[.slice none 0 0], []⟩ 8 (by kernel_rfl) (by kernel_rfl) (by kernel_rfl) (by kernel_rfl)) ?_
  intro W base args ds gs before hval0 hW hcnd _
  have hval : ∀ (j : Nat) t v, Try.f11.params[j]? = some t → args[j]? = some v → Value.okWide Try.prog W .any base t v := hval0
  have hW' := hW
  obtain ⟨p, q, hA0, hV, rfl, hfz, hnd⟩ := hW
  have hA : DataW.TrodAll enc Try.prog W 0 (fun _ => true) true Try.f11.params.toList args.toList ds p := hA0
  rw [Try.params11] at hA hval
  obtain ⟨v0, vs0, d0, ds0, p0, q0, hargs, rfl, rfl, h0, r0⟩ := trodAll_cons hA
  obtain ⟨rfl, rfl, rfl⟩ := trodAll_nil r0
  obtain rfl : args = #[v0] := by cases args; simp_all
  obtain ⟨rfl, rfl⟩ := trodVars_none hV
  have k0 := h0
  have lt0 : ∀ x ∈ p0, x.block < W.heap.size := by obtain ⟨m, hm⟩ := k0; exact DataW.trod_lt m _ _ _ hm
  obtain ⟨a0, l0, c0, rfl⟩ := okWide_slice Try.underlying28 (hval 0 28 v0 rfl rfl)
  have g0 := open_bytes Try.underlying28 Try.underlying5 (by kernel_rfl) h0
  clear hA0 hval0
  refine (walk a0 l0 c0 W g0).mono fun e W' ⟨he, bel⟩ => ?_
  subst he
  exact ⟨_, rfl, _, _, _, [], _, [], hW', trodAll_mk1 (shut_bool Try.underlying4 _), (trodAll_cons_mk (Below.trod laidOut (by kernel_rfl) (of_decide_eq_true (by kernel_rfl)) k0 bel lt0) trodAll_mk0), rfl, bel.frame _, fun h => by cases h⟩

theorem c0 : ((Rows.fnIsViewSameRow.wf (OpenSpec.ofChange Rows.fnIsViewSameSpec)) && (laidOutB Try.prog) && (mapsRowed Try.prog) && (Try.f11.params.all (Try.prog.readableRec ·))) = true := by kernel_rfl
theorem c4 : ((namedTie Try.prog Rows.fnIsViewSameRow.named Rows.fnIsViewSameSpec.vars) && (Rows.fnIsViewSameRow.stops == []) && (Try.prog.stops == []) && (Rows.fnIsViewSameRow.knobs == [])) = true := by kernel_rfl
theorem c8 : ((Try.prog.stopKnobs == []) && (Rows.fnIsViewSameRow.inPlace == Try.prog.inPlace 11) && (Rows.fnIsViewSameRow.unfollowed == Try.prog.unfollowed 11) && (Rows.fnIsViewSameRow.recurses == Try.prog.recurses 11)) = true := by kernel_rfl
theorem c12 : ((Rows.fnIsViewSameRow.named == Try.prog.varsNamed 11) && ((Rows.fnIsViewSameRow.maps == (Try.f11.params.toList ++ Rows.fnIsViewSameSpec.plain.varTypes Try.prog).any (Try.prog.mapsRec ·))) && ((Rows.fnIsViewSameRow.ifaces == (Try.f11.params.toList ++ Rows.fnIsViewSameSpec.plain.varTypes Try.prog).any (Try.prog.ifacesRec ·))) && (Rows.fnIsViewSameRow.mapsOut == Try.prog.mapsAmong Try.f11.resultTypes.toList)) = true := by kernel_rfl
theorem c16 : (((Rows.fnIsViewSameRow.loops == (Try.f11.params.toList ++ Rows.fnIsViewSameSpec.plain.varTypes Try.prog).any (Try.prog.loopsFrom ·))) && ((Rows.fnIsViewSameRow.wideKeys == (Try.f11.params.toList ++ Rows.fnIsViewSameSpec.plain.varTypes Try.prog ++ Try.f11.resultTypes.toList).any (Try.prog.wideKeysFrom ·))) && (Rows.fnIsViewSameSpec.vars.all (Try.prog.varReadable ·)) && (Try.f11.resultTypes.all (fun t => Try.prog.readableRec t && decide (t < Try.prog.types.size)))) = true := by kernel_rfl
theorem c20 : (((Rows.fnIsViewSameRow.ifacesOut == Try.f11.resultTypes.toList.any (Try.prog.ifacesRec ·))) && ((Rows.fnIsViewSameRow.loopsOut == Try.f11.resultTypes.toList.any (Try.prog.loopsFrom ·))) && (Rows.fnIsViewSameRow.plainKeys == Try.prog.plainKeys) && (Rows.fnIsViewSameRow.shortTexts.isNone)) = true := by kernel_rfl
theorem c24 : ((Try.prog.stopsHeard) && (Try.prog.mayEnter) && (Rows.fnIsViewSameRow.lifted == Try.prog.liftsFinal) && (Try.prog.make == some Rows.fnIsViewSameRow.make)) = true := by kernel_rfl
theorem c28 : (((Rows.fnIsViewSameRow.kinds == (if Rows.fnIsViewSameRow.domain.isEmpty then [] else Try.f11.params.toList.map fun t => match Try.prog.underlying t with | some (.int k) => some k | _ => none))) && (Rows.fnIsViewSameRow.pinned == Rows.fnIsViewSameRow.pinnedBy) && ((Rows.fnIsViewSameRow.veiled == (Try.f11.params.toList ++ Rows.fnIsViewSameSpec.plain.varTypes Try.prog ++ Try.f11.resultTypes.toList).any (Try.prog.veiledRec ·))) && (Rows.fnIsViewSameRow.veiledFits Try.prog Try.f11.params.toList (Try.f11.params.toList ++ Rows.fnIsViewSameSpec.plain.varTypes Try.prog ++ Try.f11.resultTypes.toList))) = true := by kernel_rfl
set_option maxRecDepth 1000000 in
theorem closed : joinedFacts Try.prog 11 Try.f11 Rows.fnIsViewSameSpec Rows.fnIsViewSameRow = true := by
  unfold joinedFacts
  exact (and2 (and2 (and2 (and2 (and2 (and2 (and2 (and2 (and2 (and2 (and2 (and2 (and2 (and2 (and2 (and2 (and2 (and2 (and2 (and2 (and2 (and2 (and2 (and2 (and2 (and2 (and2 (and2 (and2 (and2 (and2 (andL (andL (andL c0))) (andR (andL (andL c0)))) (andR (andL c0))) (andR c0)) (andL (andL (andL c4)))) (andR (andL (andL c4)))) (andR (andL c4))) (andR c4)) (andL (andL (andL c8)))) (andR (andL (andL c8)))) (andR (andL c8))) (andR c8)) (andL (andL (andL c12)))) (andR (andL (andL c12)))) (andR (andL c12))) (andR c12)) (andL (andL (andL c16)))) (andR (andL (andL c16)))) (andR (andL c16))) (andR c16)) (andL (andL (andL c20)))) (andR (andL (andL c20)))) (andR (andL c20))) (andR c20)) (andL (andL (andL c24)))) (andR (andL (andL c24)))) (andR (andL c24))) (andR c24)) (andL (andL (andL c28)))) (andR (andL (andL c28)))) (andR (andL c28))) (andR c28))
theorem named : Try.prog.funcNamed Rows.fnIsViewSameRow.func = some 11 := by kernel_rfl
theorem inst : Try.f11.isInstance Try.prog Rows.fnIsViewSameRow.origin Rows.fnIsViewSameRow.targs := of_decide_eq_true (by kernel_rfl)
theorem wrap : Try.f11.isWrapper Try.prog Rows.fnIsViewSameRow.wrapper Rows.fnIsViewSameRow.mainSum := by unfold Func.isWrapper; first | (rw [if_pos (by decide +kernel)]; kernel_rfl) | (rw [if_neg (by decide +kernel)]; exact ⟨rfl, rfl⟩)
theorem over : Rows.fnIsViewSameRow.holds Try.pinned (OpenSpec.ofChange Rows.fnIsViewSameSpec) :=
  OpenClaim.holds_of_wide 11 Try.f11 rfl rfl rfl rfl rfl rfl rfl ⟨rfl, rfl, rfl, rfl, rfl⟩ rfl rfl rfl rfl rfl named Try.func11 closed inst wrap
    (fun os started H enc _ => lifted os started H enc)

theorem proved : Rows.FnIsViewSameSaid := over
#print axioms proved
end Go.Proofs.Ytkbclcgdkbhgdaa.fnIsViewSame

