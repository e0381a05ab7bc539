/-
  The law FnKeeps holds for every input: the call returns true, and its arguments read afterwards as they read before. No condition.
-/
import Derived.Test.YtncebpmckbcabaaRows
import Derived.WalkKit
import Derived.ProofKit
import Derived.OpenShut
import Derived.ShutString
import Derived.ChangeOld
import Derived.Below
import Derived.Test.YtncebpmckbcabaaSKp1
import Derived.Test.YtncebpmckbcabaaSKp43
namespace Go.Proofs.Ytncebpmckbcabaa.fnKeeps
open Go.ChangeShapes Go.WideShapes Go.ChangeAt Go.RowKit
open Go.ChangeMaps (open_string shut_string)
set_option linter.unusedVariables false

theorem own : ownKnob Try.prog.godebug = none := by kernel_rfl
theorem laidOut : laidOutB Try.prog = true := by kernel_rfl

theorem walk (a0 : Option Addr) (l0 c0 : Nat) (w : World) (g0 : BytesIn w a0 l0 c0) :
    Calls Try.prog 6 #[.slice a0 l0 c0] w fun e w' => e = .returned (.bool true) ∧ Below w.heap.size w w' := law_keeps a0 l0 c0 w g0
set_option maxRecDepth 100000 in
theorem lifted (os : Os) (started : os.Started) (H : Type) (enc : TypeId × Value → H) :
    ReturnsInHanded {} Try.checked os 6 .any (Rows.fnKeepsSpec.pre6 enc Try.prog Try.f6 Rows.fnKeepsRow.domain false) (Rows.fnKeepsSpec.post enc Try.prog Try.f6 false true false false) := by
  refine returnsInHanded_of_change (C := Try.checked) own started (by kernel_rfl) Try.func6
    (ChangeSpec.witness6 (enc := enc) (C := Try.checked) false ⟨#[], #[.slice none 0 0], []⟩ 8 (by kernel_rfl) (by kernel_rfl) (by kernel_rfl) (by kernel_rfl)) ?_
  intro W base args ds gs before hval0 hW hcnd _
  have hval : ∀ (j : Nat) t v, Try.f6.params[j]? = some t → args[j]? = some v → Value.okWide Try.prog W .any base t v := hval0
  have hW' := hW
  obtain ⟨p, q, hA0, hV, rfl, hfz, hnd⟩ := hW
  have hA : DataW.TrodAll enc Try.prog W 0 (fun _ => true) true Try.f6.params.toList args.toList ds p := hA0
  rw [Try.params6] at hA hval
  obtain ⟨v0, vs0, d0, ds0, p0, q0, hargs, rfl, rfl, h0, r0⟩ := trodAll_cons hA
  obtain ⟨rfl, rfl, rfl⟩ := trodAll_nil r0
  obtain rfl : args = #[v0] := by cases args; simp_all
  obtain ⟨rfl, rfl⟩ := trodVars_none hV
  have k0 := h0
  have lt0 : ∀ x ∈ p0, x.block < W.heap.size := by obtain ⟨m, hm⟩ := k0; exact DataW.trod_lt m _ _ _ hm
  obtain ⟨a0, l0, c0, rfl⟩ := okWide_slice Try.underlying37 (hval 0 37 v0 rfl rfl)
  have g0 := open_bytes Try.underlying37 Try.underlying5 (by kernel_rfl) h0
  clear hA0 hval0
  refine (walk a0 l0 c0 W g0).mono fun e W' ⟨he, bel⟩ => ?_
  subst he
  exact ⟨_, rfl, _, _, _, [], _, [], hW', trodAll_mk1 (shut_bool Try.underlying4 _), (trodAll_cons_mk (Below.trod laidOut (by kernel_rfl) (of_decide_eq_true (by kernel_rfl)) k0 bel lt0) trodAll_mk0), rfl, bel.frame _, fun h => by cases h⟩

theorem c0 : ((Rows.fnKeepsRow.wf (OpenSpec.ofChange Rows.fnKeepsSpec)) && (laidOutB Try.prog) && (mapsRowed Try.prog) && (Try.f6.params.all (Try.prog.readableRec ·))) = true := by kernel_rfl
theorem c4 : ((namedTie Try.prog Rows.fnKeepsRow.named Rows.fnKeepsSpec.vars) && (Rows.fnKeepsRow.stops == []) && (Try.prog.stops == []) && (Rows.fnKeepsRow.knobs == [])) = true := by kernel_rfl
theorem c8 : ((Try.prog.stopKnobs == []) && (Rows.fnKeepsRow.inPlace == Try.prog.inPlace 6) && (Rows.fnKeepsRow.unfollowed == Try.prog.unfollowed 6) && (Rows.fnKeepsRow.recurses == Try.prog.recurses 6)) = true := by kernel_rfl
theorem c12 : ((Rows.fnKeepsRow.named == Try.prog.varsNamed 6) && ((Rows.fnKeepsRow.maps == (Try.f6.params.toList ++ Rows.fnKeepsSpec.plain.varTypes Try.prog).any (Try.prog.mapsRec ·))) && ((Rows.fnKeepsRow.ifaces == (Try.f6.params.toList ++ Rows.fnKeepsSpec.plain.varTypes Try.prog).any (Try.prog.ifacesRec ·))) && (Rows.fnKeepsRow.mapsOut == Try.prog.mapsAmong Try.f6.resultTypes.toList)) = true := by kernel_rfl
theorem c16 : (((Rows.fnKeepsRow.loops == (Try.f6.params.toList ++ Rows.fnKeepsSpec.plain.varTypes Try.prog).any (Try.prog.loopsFrom ·))) && ((Rows.fnKeepsRow.wideKeys == (Try.f6.params.toList ++ Rows.fnKeepsSpec.plain.varTypes Try.prog ++ Try.f6.resultTypes.toList).any (Try.prog.wideKeysFrom ·))) && (Rows.fnKeepsSpec.vars.all (Try.prog.varReadable ·)) && (Try.f6.resultTypes.all (fun t => Try.prog.readableRec t && decide (t < Try.prog.types.size)))) = true := by kernel_rfl
theorem c20 : (((Rows.fnKeepsRow.ifacesOut == Try.f6.resultTypes.toList.any (Try.prog.ifacesRec ·))) && ((Rows.fnKeepsRow.loopsOut == Try.f6.resultTypes.toList.any (Try.prog.loopsFrom ·))) && (Rows.fnKeepsRow.plainKeys == Try.prog.plainKeys) && (Rows.fnKeepsRow.shortTexts.isNone)) = true := by kernel_rfl
theorem c24 : ((Try.prog.stopsHeard) && (Try.prog.mayEnter) && (Rows.fnKeepsRow.lifted == Try.prog.liftsFinal) && (Try.prog.make == some Rows.fnKeepsRow.make)) = true := by kernel_rfl
theorem c28 : (((Rows.fnKeepsRow.kinds == (if Rows.fnKeepsRow.domain.isEmpty then [] else Try.f6.params.toList.map fun t => match Try.prog.underlying t with | some (.int k) => some k | _ => none))) && (Rows.fnKeepsRow.pinned == Rows.fnKeepsRow.pinnedBy) && ((Rows.fnKeepsRow.veiled == (Try.f6.params.toList ++ Rows.fnKeepsSpec.plain.varTypes Try.prog ++ Try.f6.resultTypes.toList).any (Try.prog.veiledRec ·))) && (Rows.fnKeepsRow.veiledFits Try.prog Try.f6.params.toList (Try.f6.params.toList ++ Rows.fnKeepsSpec.plain.varTypes Try.prog ++ Try.f6.resultTypes.toList))) = true := by kernel_rfl
set_option maxRecDepth 1000000 in
theorem closed : joinedFacts Try.prog 6 Try.f6 Rows.fnKeepsSpec Rows.fnKeepsRow = true := by
  unfold joinedFacts
  exact (and2 (and2 (and2 (and2 (and2 (and2 (and2 (and2 (and2 (and2 (and2 (and2 (and2 (and2 (and2 (and2 (and2 (and2 (and2 (and2 (and2 (and2 (and2 (and2 (and2 (and2 (and2 (and2 (and2 (and2 (and2 (andL (andL (andL c0))) (andR (andL (andL c0)))) (andR (andL c0))) (andR c0)) (andL (andL (andL c4)))) (andR (andL (andL c4)))) (andR (andL c4))) (andR c4)) (andL (andL (andL c8)))) (andR (andL (andL c8)))) (andR (andL c8))) (andR c8)) (andL (andL (andL c12)))) (andR (andL (andL c12)))) (andR (andL c12))) (andR c12)) (andL (andL (andL c16)))) (andR (andL (andL c16)))) (andR (andL c16))) (andR c16)) (andL (andL (andL c20)))) (andR (andL (andL c20)))) (andR (andL c20))) (andR c20)) (andL (andL (andL c24)))) (andR (andL (andL c24)))) (andR (andL c24))) (andR c24)) (andL (andL (andL c28)))) (andR (andL (andL c28)))) (andR (andL c28))) (andR c28))
theorem named : Try.prog.funcNamed Rows.fnKeepsRow.func = some 6 := by kernel_rfl
theorem inst : Try.f6.isInstance Try.prog Rows.fnKeepsRow.origin Rows.fnKeepsRow.targs := of_decide_eq_true (by kernel_rfl)
theorem wrap : Try.f6.isWrapper Try.prog Rows.fnKeepsRow.wrapper Rows.fnKeepsRow.mainSum := by unfold Func.isWrapper; first | (rw [if_pos (by decide +kernel)]; kernel_rfl) | (rw [if_neg (by decide +kernel)]; exact ⟨rfl, rfl⟩)
theorem over : Rows.fnKeepsRow.holds Try.pinned (OpenSpec.ofChange Rows.fnKeepsSpec) :=
  OpenClaim.holds_of_wide 6 Try.f6 rfl rfl rfl rfl rfl rfl rfl ⟨rfl, rfl, rfl, rfl, rfl⟩ rfl rfl rfl rfl rfl named Try.func6 closed inst wrap
    (fun os started H enc _ => lifted os started H enc)

theorem proved : Rows.FnKeepsSaid := over
#print axioms proved
end Go.Proofs.Ytncebpmckbcabaa.fnKeeps

