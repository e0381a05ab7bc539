/-
  The law FnLocksOf holds for every input: the call returns true, and its arguments read afterwards as they read before. No condition.
-/
import Derived.Test.YtcakjhappchlmaaRows
import Derived.WalkKit
import Derived.ProofKit
import Derived.OpenShut
import Derived.ShutString
import Derived.ChangeOld
import Derived.Below
import Derived.Test.YtcakjhappchlmaaPkLkA
import Derived.Test.YtcakjhappchlmaaQWLLocksOf
namespace Go.Proofs.Ytcakjhappchlmaa.fnLocksOf
open Go.ChangeShapes Go.WideShapes Go.ChangeAt Go.RowKit
open Go.ChangeMaps (open_string shut_string)
set_option linter.unusedVariables false

theorem own : ownKnob Try.prog.godebug = none := by kernel_rfl
theorem laidOut : laidOutB Try.prog = true := by kernel_rfl

theorem walk (a0 : Option Addr) (l0 c0 : Nat) (w : World) (g0 : BytesIn w a0 l0 c0) :
    Calls Try.prog 8 #[.slice a0 l0 c0] w fun e w' => e = .returned (.bool true) ∧ Below w.heap.size w w' := law_locksOf a0 l0 c0 w g0
set_option maxRecDepth 100000 in
theorem lifted (os : Os) (started : os.Started) (H : Type) (enc : TypeId × Value → H) :
    ReturnsInHanded {} Try.checked os 8 .any (Rows.fnLocksOfSpec.pre6 enc Try.prog Try.f8 Rows.fnLocksOfRow.domain false) (Rows.fnLocksOfSpec.post enc Try.prog Try.f8 false true false false) := by
  refine returnsInHanded_of_change (C := Try.checked) own started (by kernel_rfl) Try.func8
    (ChangeSpec.witness6 (enc := enc) (C := Try.checked) false ⟨#[], #[.slice none 0 0], []⟩ 8 (by kernel_rfl) (by kernel_rfl) (by kernel_rfl) (by kernel_rfl)) ?_
  intro W base args ds gs before hval0 hW hcnd _
  have hval : ∀ (j : Nat) t v, Try.f8.params[j]? = some t → args[j]? = some v → Value.okWide Try.prog W .any base t v := hval0
  have hW' := hW
  obtain ⟨p, q, hA0, hV, rfl, hfz, hnd⟩ := hW
  have hA : DataW.TrodAll enc Try.prog W 0 (fun _ => true) true Try.f8.params.toList args.toList ds p := hA0
  rw [Try.params8] at hA hval
  obtain ⟨v0, vs0, d0, ds0, p0, q0, hargs, rfl, rfl, h0, r0⟩ := trodAll_cons hA
  obtain ⟨rfl, rfl, rfl⟩ := trodAll_nil r0
  obtain rfl : args = #[v0] := by cases args; simp_all
  obtain ⟨rfl, rfl⟩ := trodVars_none hV
  have k0 := h0
  have lt0 : ∀ x ∈ p0, x.block < W.heap.size := by obtain ⟨m, hm⟩ := k0; exact DataW.trod_lt m _ _ _ hm
  obtain ⟨a0, l0, c0, rfl⟩ := okWide_slice Try.underlying22 (hval 0 22 v0 rfl rfl)
  have g0 := open_bytes Try.underlying22 Try.underlying5 (by kernel_rfl) h0
  clear hA0 hval0
  refine (walk a0 l0 c0 W g0).mono fun e W' ⟨he, bel⟩ => ?_
  subst he
  exact ⟨_, rfl, _, _, _, [], _, [], hW', trodAll_mk1 (shut_bool Try.underlying4 _), (trodAll_cons_mk (Below.trod laidOut (by kernel_rfl) (of_decide_eq_true (by kernel_rfl)) k0 bel lt0) trodAll_mk0), rfl, bel.frame _, fun h => by cases h⟩

theorem c0 : ((Rows.fnLocksOfRow.wf (OpenSpec.ofChange Rows.fnLocksOfSpec)) && (laidOutB Try.prog) && (mapsRowed Try.prog) && (Try.f8.params.all (Try.prog.readableRec ·))) = true := by kernel_rfl
theorem c4 : ((namedTie Try.prog Rows.fnLocksOfRow.named Rows.fnLocksOfSpec.vars) && (Rows.fnLocksOfRow.stops == []) && (Try.prog.stops == []) && (Rows.fnLocksOfRow.knobs == [])) = true := by kernel_rfl
theorem c8 : ((Try.prog.stopKnobs == []) && (Rows.fnLocksOfRow.inPlace == Try.prog.inPlace 8) && (Rows.fnLocksOfRow.unfollowed == Try.prog.unfollowed 8) && (Rows.fnLocksOfRow.recurses == Try.prog.recurses 8)) = true := by kernel_rfl
theorem c12 : ((Rows.fnLocksOfRow.named == Try.prog.varsNamed 8) && ((Rows.fnLocksOfRow.maps == (Try.f8.params.toList ++ Rows.fnLocksOfSpec.plain.varTypes Try.prog).any (Try.prog.mapsRec ·))) && ((Rows.fnLocksOfRow.ifaces == (Try.f8.params.toList ++ Rows.fnLocksOfSpec.plain.varTypes Try.prog).any (Try.prog.ifacesRec ·))) && (Rows.fnLocksOfRow.mapsOut == Try.prog.mapsAmong Try.f8.resultTypes.toList)) = true := by kernel_rfl
theorem c16 : (((Rows.fnLocksOfRow.loops == (Try.f8.params.toList ++ Rows.fnLocksOfSpec.plain.varTypes Try.prog).any (Try.prog.loopsFrom ·))) && ((Rows.fnLocksOfRow.wideKeys == (Try.f8.params.toList ++ Rows.fnLocksOfSpec.plain.varTypes Try.prog ++ Try.f8.resultTypes.toList).any (Try.prog.wideKeysFrom ·))) && (Rows.fnLocksOfSpec.vars.all (Try.prog.varReadable ·)) && (Try.f8.resultTypes.all (fun t => Try.prog.readableRec t && decide (t < Try.prog.types.size)))) = true := by kernel_rfl
theorem c20 : (((Rows.fnLocksOfRow.ifacesOut == Try.f8.resultTypes.toList.any (Try.prog.ifacesRec ·))) && ((Rows.fnLocksOfRow.loopsOut == Try.f8.resultTypes.toList.any (Try.prog.loopsFrom ·))) && (Rows.fnLocksOfRow.plainKeys == Try.prog.plainKeys) && (Rows.fnLocksOfRow.shortTexts.isNone)) = true := by kernel_rfl
theorem c24 : ((Try.prog.stopsHeard) && (Try.prog.mayEnter) && (Rows.fnLocksOfRow.lifted == Try.prog.liftsFinal) && (Try.prog.make == some Rows.fnLocksOfRow.make)) = true := by kernel_rfl
theorem c28 : (((Rows.fnLocksOfRow.kinds == (if Rows.fnLocksOfRow.domain.isEmpty then [] else Try.f8.params.toList.map fun t => match Try.prog.underlying t with | some (.int k) => some k | _ => none))) && (Rows.fnLocksOfRow.pinned == Rows.fnLocksOfRow.pinnedBy) && ((Rows.fnLocksOfRow.veiled == (Try.f8.params.toList ++ Rows.fnLocksOfSpec.plain.varTypes Try.prog ++ Try.f8.resultTypes.toList).any (Try.prog.veiledRec ·))) && (Rows.fnLocksOfRow.veiledFits Try.prog Try.f8.params.toList (Try.f8.params.toList ++ Rows.fnLocksOfSpec.plain.varTypes Try.prog ++ Try.f8.resultTypes.toList))) = true := by kernel_rfl
set_option maxRecDepth 1000000 in
theorem closed : joinedFacts Try.prog 8 Try.f8 Rows.fnLocksOfSpec Rows.fnLocksOfRow = true := by
  unfold joinedFacts
  exact (and2 (and2 (and2 (and2 (and2 (and2 (and2 (and2 (and2 (and2 (and2 (and2 (and2 (and2 (and2 (and2 (and2 (and2 (and2 (and2 (and2 (and2 (and2 (and2 (and2 (and2 (and2 (and2 (and2 (and2 (and2 (andL (andL (andL c0))) (andR (andL (andL c0)))) (andR (andL c0))) (andR c0)) (andL (andL (andL c4)))) (andR (andL (andL c4)))) (andR (andL c4))) (andR c4)) (andL (andL (andL c8)))) (andR (andL (andL c8)))) (andR (andL c8))) (andR c8)) (andL (andL (andL c12)))) (andR (andL (andL c12)))) (andR (andL c12))) (andR c12)) (andL (andL (andL c16)))) (andR (andL (andL c16)))) (andR (andL c16))) (andR c16)) (andL (andL (andL c20)))) (andR (andL (andL c20)))) (andR (andL c20))) (andR c20)) (andL (andL (andL c24)))) (andR (andL (andL c24)))) (andR (andL c24))) (andR c24)) (andL (andL (andL c28)))) (andR (andL (andL c28)))) (andR (andL c28))) (andR c28))
theorem named : Try.prog.funcNamed Rows.fnLocksOfRow.func = some 8 := by kernel_rfl
theorem inst : Try.f8.isInstance Try.prog Rows.fnLocksOfRow.origin Rows.fnLocksOfRow.targs := of_decide_eq_true (by kernel_rfl)
theorem wrap : Try.f8.isWrapper Try.prog Rows.fnLocksOfRow.wrapper Rows.fnLocksOfRow.mainSum := by unfold Func.isWrapper; first | (rw [if_pos (by decide +kernel)]; kernel_rfl) | (rw [if_neg (by decide +kernel)]; exact ⟨rfl, rfl⟩)
theorem over : Rows.fnLocksOfRow.holds Try.pinned (OpenSpec.ofChange Rows.fnLocksOfSpec) :=
  OpenClaim.holds_of_wide 8 Try.f8 rfl rfl rfl rfl rfl rfl rfl ⟨rfl, rfl, rfl, rfl, rfl⟩ rfl rfl rfl rfl rfl named Try.func8 closed inst wrap
    (fun os started H enc _ => lifted os started H enc)

theorem proved : Rows.FnLocksOfSaid := over
#print axioms proved
end Go.Proofs.Ytcakjhappchlmaa.fnLocksOf

