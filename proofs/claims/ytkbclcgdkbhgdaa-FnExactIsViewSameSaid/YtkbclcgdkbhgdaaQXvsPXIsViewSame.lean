/-
  The law FnExactIsViewSame holds for every input: the call returns true, and its arguments read afterwards as they read before. No condition.
-/
import Derived.Test.YtkbclcgdkbhgdaaRows
import Derived.WalkKit
import Derived.ProofKit
import Derived.OpenShut
import Derived.ShutString
import Derived.ChangeOld
import Derived.Below
import Derived.Test.YtkbclcgdkbhgdaaPkOrdX1
import Derived.Test.YtkbclcgdkbhgdaaQXvsXIsViewSame
namespace Go.Proofs.Ytkbclcgdkbhgdaa.fnExactIsViewSame
open Go.ChangeShapes Go.WideShapes Go.ChangeAt Go.RowKit
open Go.ChangeMaps (open_string shut_string)
set_option linter.unusedVariables false

theorem own : ownKnob Try.prog.godebug = none := by kernel_rfl
theorem laidOut : laidOutB Try.prog = true := by kernel_rfl

theorem walk (a0 : Option Addr) (l0 c0 : Nat) (a1 : Option Addr) (l1 c1 : Nat) (w : World) (g0 : OpsIn w a0 l0 c0) (g1 : OpsIn w a1 l1 c1) :
    Calls Try.prog 3 #[.slice a0 l0 c0, .slice a1 l1 c1] w fun e w' => e = .returned (.bool true) ∧ Below w.heap.size w w' := exact_isViewSame a0 l0 c0 a1 l1 c1 w g0 g1
set_option maxRecDepth 100000 in
theorem lifted (os : Os) (started : os.Started) (H : Type) (enc : TypeId × Value → H) :
    ReturnsInHanded {} Try.checked os 3 .any (Rows.fnExactIsViewSameSpec.pre6 enc Try.prog Try.f3 Rows.fnExactIsViewSameRow.domain false) (Rows.fnExactIsViewSameSpec.post enc Try.prog Try.f3 false true false false) := by
  refine returnsInHanded_of_change (C := Try.checked) own started (by kernel_rfl) Try.func3
    (ChangeSpec.witness6 (enc := enc) (C := Try.checked) false ⟨#[], #[.slice none 0 0, .slice none 0 0], []⟩ 8 (by kernel_rfl) (by kernel_rfl) (by kernel_rfl) (by kernel_rfl)) ?_
  intro W base args ds gs before hval0 hW hcnd _
  have hval : ∀ (j : Nat) t v, Try.f3.params[j]? = some t → args[j]? = some v → Value.okWide Try.prog W .any base t v := hval0
  have hW' := hW
  obtain ⟨p, q, hA0, hV, rfl, hfz, hnd⟩ := hW
  have hA : DataW.TrodAll enc Try.prog W 0 (fun _ => true) true Try.f3.params.toList args.toList ds p := hA0
  rw [Try.params3] at hA hval
  obtain ⟨v0, vs0, d0, ds0, p0, q0, hargs, rfl, rfl, h0, r0⟩ := trodAll_cons hA
  obtain ⟨v1, vs1, d1, ds1, p1, q1, rfl, rfl, rfl, h1, r1⟩ := trodAll_cons r0
  obtain ⟨rfl, rfl, rfl⟩ := trodAll_nil r1
  obtain rfl : args = #[v0, v1] := by cases args; simp_all
  obtain ⟨rfl, rfl⟩ := trodVars_none hV
  have k0 := h0
  have lt0 : ∀ x ∈ p0, x.block < W.heap.size := by obtain ⟨m, hm⟩ := k0; exact DataW.trod_lt m _ _ _ hm
  obtain ⟨a0, l0, c0, rfl⟩ := okWide_slice Try.underlying22 (hval 0 22 v0 rfl rfl)
  have g0 := open_lops h0
  have k1 := h1
  have lt1 : ∀ x ∈ p1, x.block < W.heap.size := by obtain ⟨m, hm⟩ := k1; exact DataW.trod_lt m _ _ _ hm
  obtain ⟨a1, l1, c1, rfl⟩ := okWide_slice Try.underlying22 (hval 1 22 v1 rfl rfl)
  have g1 := open_lops h1
  clear hA0 hval0
  refine (walk a0 l0 c0 a1 l1 c1 W g0 g1).mono fun e W' ⟨he, bel⟩ => ?_
  subst he
  exact ⟨_, rfl, _, _, _, [], _, [], hW', trodAll_mk1 (shut_bool Try.underlying4 _), (trodAll_cons_mk (Below.trod laidOut (by kernel_rfl) (of_decide_eq_true (by kernel_rfl)) k0 bel lt0) (trodAll_cons_mk (Below.trod laidOut (by kernel_rfl) (of_decide_eq_true (by kernel_rfl)) k1 bel lt1) trodAll_mk0)), rfl, bel.frame _, fun h => by cases h⟩

theorem c0 : ((Rows.fnExactIsViewSameRow.wf (OpenSpec.ofChange Rows.fnExactIsViewSameSpec)) && (laidOutB Try.prog) && (mapsRowed Try.prog) && (Try.f3.params.all (Try.prog.readableRec ·))) = true := by kernel_rfl
theorem c4 : ((namedTie Try.prog Rows.fnExactIsViewSameRow.named Rows.fnExactIsViewSameSpec.vars) && (Rows.fnExactIsViewSameRow.stops == []) && (Try.prog.stops == []) && (Rows.fnExactIsViewSameRow.knobs == [])) = true := by kernel_rfl
theorem c8 : ((Try.prog.stopKnobs == []) && (Rows.fnExactIsViewSameRow.inPlace == Try.prog.inPlace 3) && (Rows.fnExactIsViewSameRow.unfollowed == Try.prog.unfollowed 3) && (Rows.fnExactIsViewSameRow.recurses == Try.prog.recurses 3)) = true := by kernel_rfl
theorem c12 : ((Rows.fnExactIsViewSameRow.named == Try.prog.varsNamed 3) && ((Rows.fnExactIsViewSameRow.maps == (Try.f3.params.toList ++ Rows.fnExactIsViewSameSpec.plain.varTypes Try.prog).any (Try.prog.mapsRec ·))) && ((Rows.fnExactIsViewSameRow.ifaces == (Try.f3.params.toList ++ Rows.fnExactIsViewSameSpec.plain.varTypes Try.prog).any (Try.prog.ifacesRec ·))) && (Rows.fnExactIsViewSameRow.mapsOut == Try.prog.mapsAmong Try.f3.resultTypes.toList)) = true := by kernel_rfl
theorem c16 : (((Rows.fnExactIsViewSameRow.loops == (Try.f3.params.toList ++ Rows.fnExactIsViewSameSpec.plain.varTypes Try.prog).any (Try.prog.loopsFrom ·))) && ((Rows.fnExactIsViewSameRow.wideKeys == (Try.f3.params.toList ++ Rows.fnExactIsViewSameSpec.plain.varTypes Try.prog ++ Try.f3.resultTypes.toList).any (Try.prog.wideKeysFrom ·))) && (Rows.fnExactIsViewSameSpec.vars.all (Try.prog.varReadable ·)) && (Try.f3.resultTypes.all (fun t => Try.prog.readableRec t && decide (t < Try.prog.types.size)))) = true := by kernel_rfl
theorem c20 : (((Rows.fnExactIsViewSameRow.ifacesOut == Try.f3.resultTypes.toList.any (Try.prog.ifacesRec ·))) && ((Rows.fnExactIsViewSameRow.loopsOut == Try.f3.resultTypes.toList.any (Try.prog.loopsFrom ·))) && (Rows.fnExactIsViewSameRow.plainKeys == Try.prog.plainKeys) && (Rows.fnExactIsViewSameRow.shortTexts.isNone)) = true := by kernel_rfl
theorem c24 : ((Try.prog.stopsHeard) && (Try.prog.mayEnter) && (Rows.fnExactIsViewSameRow.lifted == Try.prog.liftsFinal) && (Try.prog.make == some Rows.fnExactIsViewSameRow.make)) = true := by kernel_rfl
theorem c28 : (((Rows.fnExactIsViewSameRow.kinds == (if Rows.fnExactIsViewSameRow.domain.isEmpty then [] else Try.f3.params.toList.map fun t => match Try.prog.underlying t with | some (.int k) => some k | _ => none))) && (Rows.fnExactIsViewSameRow.pinned == Rows.fnExactIsViewSameRow.pinnedBy) && ((Rows.fnExactIsViewSameRow.veiled == (Try.f3.params.toList ++ Rows.fnExactIsViewSameSpec.plain.varTypes Try.prog ++ Try.f3.resultTypes.toList).any (Try.prog.veiledRec ·))) && (Rows.fnExactIsViewSameRow.veiledFits Try.prog Try.f3.params.toList (Try.f3.params.toList ++ Rows.fnExactIsViewSameSpec.plain.varTypes Try.prog ++ Try.f3.resultTypes.toList))) = true := by kernel_rfl
set_option maxRecDepth 1000000 in
theorem closed : joinedFacts Try.prog 3 Try.f3 Rows.fnExactIsViewSameSpec Rows.fnExactIsViewSameRow = true := by
  unfold joinedFacts
  exact (and2 (and2 (and2 (and2 (and2 (and2 (and2 (and2 (and2 (and2 (and2 (and2 (and2 (and2 (and2 (and2 (and2 (and2 (and2 (and2 (and2 (and2 (and2 (and2 (and2 (and2 (and2 (and2 (and2 (and2 (and2 (andL (andL (andL c0))) (andR (andL (andL c0)))) (andR (andL c0))) (andR c0)) (andL (andL (andL c4)))) (andR (andL (andL c4)))) (andR (andL c4))) (andR c4)) (andL (andL (andL c8)))) (andR (andL (andL c8)))) (andR (andL c8))) (andR c8)) (andL (andL (andL c12)))) (andR (andL (andL c12)))) (andR (andL c12))) (andR c12)) (andL (andL (andL c16)))) (andR (andL (andL c16)))) (andR (andL c16))) (andR c16)) (andL (andL (andL c20)))) (andR (andL (andL c20)))) (andR (andL c20))) (andR c20)) (andL (andL (andL c24)))) (andR (andL (andL c24)))) (andR (andL c24))) (andR c24)) (andL (andL (andL c28)))) (andR (andL (andL c28)))) (andR (andL c28))) (andR c28))
theorem named : Try.prog.funcNamed Rows.fnExactIsViewSameRow.func = some 3 := by kernel_rfl
theorem inst : Try.f3.isInstance Try.prog Rows.fnExactIsViewSameRow.origin Rows.fnExactIsViewSameRow.targs := of_decide_eq_true (by kernel_rfl)
theorem wrap : Try.f3.isWrapper Try.prog Rows.fnExactIsViewSameRow.wrapper Rows.fnExactIsViewSameRow.mainSum := by unfold Func.isWrapper; first | (rw [if_pos (by decide +kernel)]; kernel_rfl) | (rw [if_neg (by decide +kernel)]; exact ⟨rfl, rfl⟩)
theorem over : Rows.fnExactIsViewSameRow.holds Try.pinned (OpenSpec.ofChange Rows.fnExactIsViewSameSpec) :=
  OpenClaim.holds_of_wide 3 Try.f3 rfl rfl rfl rfl rfl rfl rfl ⟨rfl, rfl, rfl, rfl, rfl⟩ rfl rfl rfl rfl rfl named Try.func3 closed inst wrap
    (fun os started H enc _ => lifted os started H enc)

theorem proved : Rows.FnExactIsViewSameSaid := over
#print axioms proved
end Go.Proofs.Ytkbclcgdkbhgdaa.fnExactIsViewSame

