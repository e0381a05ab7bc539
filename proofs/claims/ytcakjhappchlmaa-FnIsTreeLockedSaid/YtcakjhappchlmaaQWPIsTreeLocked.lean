/-
  The law FnIsTreeLocked holds for every input: the call returns true, and its arguments read afterwards as they read before. No condition.
-/
import Derived.Test.YtcakjhappchlmaaRows
import Derived.WalkKit
import Derived.ProofKit
import Derived.OpenShut
import Derived.ShutString
import Derived.ChangeOld
import Derived.Below
import Derived.Test.YtcakjhappchlmaaPkLkA
import Derived.Test.YtcakjhappchlmaaQWLIsTreeLocked
namespace Go.Proofs.Ytcakjhappchlmaa.fnIsTreeLocked
open Go.ChangeShapes Go.WideShapes Go.ChangeAt Go.RowKit
open Go.ChangeMaps (open_string shut_string)
set_option linter.unusedVariables false

theorem own : ownKnob Try.prog.godebug = none := by kernel_rfl
theorem laidOut : laidOutB Try.prog = true := by kernel_rfl

theorem walk (a0 : Option Addr) (l0 c0 : Nat) (w : World) (g0 : BytesIn w a0 l0 c0) :
    Calls Try.prog 9 #[.slice a0 l0 c0] w fun e w' => e = .returned (.bool true) ∧ Below w.heap.size w w' := law_isTreeLocked a0 l0 c0 w g0
set_option maxRecDepth 100000 in
theorem lifted (os : Os) (started : os.Started) (H : Type) (enc : TypeId × Value → H) :
    ReturnsInHanded {} Try.checked os 9 .any (Rows.fnIsTreeLockedSpec.pre6 enc Try.prog Try.f9 Rows.fnIsTreeLockedRow.domain false) (Rows.fnIsTreeLockedSpec.post enc Try.prog Try.f9 false true false false) := by
  refine returnsInHanded_of_change (C := Try.checked) own started (by kernel_rfl) Try.func9
    (ChangeSpec.witness6 (enc := enc) (C := Try.checked) false ⟨#[], #[.slice none 0 0], []⟩ 8 (by kernel_rfl) (by kernel_rfl) (by kernel_rfl) (by kernel_rfl)) ?_
  intro W base args ds gs before hval0 hW hcnd _
  have hval : ∀ (j : Nat) t v, Try.f9.params[j]? = some t → args[j]? = some v → Value.okWide Try.prog W .any base t v := hval0
  have hW' := hW
  obtain ⟨p, q, hA0, hV, rfl, hfz, hnd⟩ := hW
  have hA : DataW.TrodAll enc Try.prog W 0 (fun _ => true) true Try.f9.params.toList args.toList ds p := hA0
  rw [Try.params9] at hA hval
  obtain ⟨v0, vs0, d0, ds0, p0, q0, hargs, rfl, rfl, h0, r0⟩ := trodAll_cons hA
  obtain ⟨rfl, rfl, rfl⟩ := trodAll_nil r0
  obtain rfl : args = #[v0] := by cases args; simp_all
  obtain ⟨rfl, rfl⟩ := trodVars_none hV
  have k0 := h0
  have lt0 : ∀ x ∈ p0, x.block < W.heap.size := by obtain ⟨m, hm⟩ := k0; exact DataW.trod_lt m _ _ _ hm
  obtain ⟨a0, l0, c0, rfl⟩ := okWide_slice Try.underlying22 (hval 0 22 v0 rfl rfl)
  have g0 := open_bytes Try.underlying22 Try.underlying5 (by kernel_rfl) h0
  clear hA0 hval0
  refine (walk a0 l0 c0 W g0).mono fun e W' ⟨he, bel⟩ => ?_
  subst he
  exact ⟨_, rfl, _, _, _, [], _, [], hW', trodAll_mk1 (shut_bool Try.underlying4 _), (trodAll_cons_mk (Below.trod laidOut (by kernel_rfl) (of_decide_eq_true (by kernel_rfl)) k0 bel lt0) trodAll_mk0), rfl, bel.frame _, fun h => by cases h⟩

theorem c0 : ((Rows.fnIsTreeLockedRow.wf (OpenSpec.ofChange Rows.fnIsTreeLockedSpec)) && (laidOutB Try.prog) && (mapsRowed Try.prog) && (Try.f9.params.all (Try.prog.readableRec ·))) = true := by kernel_rfl
theorem c4 : ((namedTie Try.prog Rows.fnIsTreeLockedRow.named Rows.fnIsTreeLockedSpec.vars) && (Rows.fnIsTreeLockedRow.stops == []) && (Try.prog.stops == []) && (Rows.fnIsTreeLockedRow.knobs == [])) = true := by kernel_rfl
theorem c8 : ((Try.prog.stopKnobs == []) && (Rows.fnIsTreeLockedRow.inPlace == Try.prog.inPlace 9) && (Rows.fnIsTreeLockedRow.unfollowed == Try.prog.unfollowed 9) && (Rows.fnIsTreeLockedRow.recurses == Try.prog.recurses 9)) = true := by kernel_rfl
theorem c12 : ((Rows.fnIsTreeLockedRow.named == Try.prog.varsNamed 9) && ((Rows.fnIsTreeLockedRow.maps == (Try.f9.params.toList ++ Rows.fnIsTreeLockedSpec.plain.varTypes Try.prog).any (Try.prog.mapsRec ·))) && ((Rows.fnIsTreeLockedRow.ifaces == (Try.f9.params.toList ++ Rows.fnIsTreeLockedSpec.plain.varTypes Try.prog).any (Try.prog.ifacesRec ·))) && (Rows.fnIsTreeLockedRow.mapsOut == Try.prog.mapsAmong Try.f9.resultTypes.toList)) = true := by kernel_rfl
theorem c16 : (((Rows.fnIsTreeLockedRow.loops == (Try.f9.params.toList ++ Rows.fnIsTreeLockedSpec.plain.varTypes Try.prog).any (Try.prog.loopsFrom ·))) && ((Rows.fnIsTreeLockedRow.wideKeys == (Try.f9.params.toList ++ Rows.fnIsTreeLockedSpec.plain.varTypes Try.prog ++ Try.f9.resultTypes.toList).any (Try.prog.wideKeysFrom ·))) && (Rows.fnIsTreeLockedSpec.vars.all (Try.prog.varReadable ·)) && (Try.f9.resultTypes.all (fun t => Try.prog.readableRec t && decide (t < Try.prog.types.size)))) = true := by kernel_rfl
theorem c20 : (((Rows.fnIsTreeLockedRow.ifacesOut == Try.f9.resultTypes.toList.any (Try.prog.ifacesRec ·))) && ((Rows.fnIsTreeLockedRow.loopsOut == Try.f9.resultTypes.toList.any (Try.prog.loopsFrom ·))) && (Rows.fnIsTreeLockedRow.plainKeys == Try.prog.plainKeys) && (Rows.fnIsTreeLockedRow.shortTexts.isNone)) = true := by kernel_rfl
theorem c24 : ((Try.prog.stopsHeard) && (Try.prog.mayEnter) && (Rows.fnIsTreeLockedRow.lifted == Try.prog.liftsFinal) && (Try.prog.make == some Rows.fnIsTreeLockedRow.make)) = true := by kernel_rfl
theorem c28 : (((Rows.fnIsTreeLockedRow.kinds == (if Rows.fnIsTreeLockedRow.domain.isEmpty then [] else Try.f9.params.toList.map fun t => match Try.prog.underlying t with | some (.int k) => some k | _ => none))) && (Rows.fnIsTreeLockedRow.pinned == Rows.fnIsTreeLockedRow.pinnedBy) && ((Rows.fnIsTreeLockedRow.veiled == (Try.f9.params.toList ++ Rows.fnIsTreeLockedSpec.plain.varTypes Try.prog ++ Try.f9.resultTypes.toList).any (Try.prog.veiledRec ·))) && (Rows.fnIsTreeLockedRow.veiledFits Try.prog Try.f9.params.toList (Try.f9.params.toList ++ Rows.fnIsTreeLockedSpec.plain.varTypes Try.prog ++ Try.f9.resultTypes.toList))) = true := by kernel_rfl
set_option maxRecDepth 1000000 in
theorem closed : joinedFacts Try.prog 9 Try.f9 Rows.fnIsTreeLockedSpec Rows.fnIsTreeLockedRow = true := by
  unfold joinedFacts
  exact (and2 (and2 (and2 (and2 (and2 (and2 (and2 (and2 (and2 (and2 (and2 (and2 (and2 (and2 (and2 (and2 (and2 (and2 (and2 (and2 (and2 (and2 (and2 (and2 (and2 (and2 (and2 (and2 (and2 (and2 (and2 (andL (andL (andL c0))) (andR (andL (andL c0)))) (andR (andL c0))) (andR c0)) (andL (andL (andL c4)))) (andR (andL (andL c4)))) (andR (andL c4))) (andR c4)) (andL (andL (andL c8)))) (andR (andL (andL c8)))) (andR (andL c8))) (andR c8)) (andL (andL (andL c12)))) (andR (andL (andL c12)))) (andR (andL c12))) (andR c12)) (andL (andL (andL c16)))) (andR (andL (andL c16)))) (andR (andL c16))) (andR c16)) (andL (andL (andL c20)))) (andR (andL (andL c20)))) (andR (andL c20))) (andR c20)) (andL (andL (andL c24)))) (andR (andL (andL c24)))) (andR (andL c24))) (andR c24)) (andL (andL (andL c28)))) (andR (andL (andL c28)))) (andR (andL c28))) (andR c28))
theorem named : Try.prog.funcNamed Rows.fnIsTreeLockedRow.func = some 9 := by kernel_rfl
theorem inst : Try.f9.isInstance Try.prog Rows.fnIsTreeLockedRow.origin Rows.fnIsTreeLockedRow.targs := of_decide_eq_true (by kernel_rfl)
theorem wrap : Try.f9.isWrapper Try.prog Rows.fnIsTreeLockedRow.wrapper Rows.fnIsTreeLockedRow.mainSum := by unfold Func.isWrapper; first | (rw [if_pos (by decide +kernel)]; kernel_rfl) | (rw [if_neg (by decide +kernel)]; exact ⟨rfl, rfl⟩)
theorem over : Rows.fnIsTreeLockedRow.holds Try.pinned (OpenSpec.ofChange Rows.fnIsTreeLockedSpec) :=
  OpenClaim.holds_of_wide 9 Try.f9 rfl rfl rfl rfl rfl rfl rfl ⟨rfl, rfl, rfl, rfl, rfl⟩ rfl rfl rfl rfl rfl named Try.func9 closed inst wrap
    (fun os started H enc _ => lifted os started H enc)

theorem proved : Rows.FnIsTreeLockedSaid := over
#print axioms proved
end Go.Proofs.Ytcakjhappchlmaa.fnIsTreeLocked

