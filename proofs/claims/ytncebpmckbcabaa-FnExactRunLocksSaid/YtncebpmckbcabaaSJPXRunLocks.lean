/-
  The law FnExactRunLocks holds for every input: the call returns true, and its arguments read afterwards as they read before. No condition.
-/
import Derived.Test.YtncebpmckbcabaaRows
import Derived.WalkKit
import Derived.ProofKit
import Derived.OpenShut
import Derived.ShutString
import Derived.ChangeOld
import Derived.Below
import Derived.Test.YtncebpmckbcabaaSJ1
import Derived.Test.YtncebpmckbcabaaSJ46
namespace Go.Proofs.Ytncebpmckbcabaa.fnExactRunLocks
open Go.ChangeShapes Go.WideShapes Go.ChangeAt Go.RowKit
open Go.ChangeMaps (open_string shut_string)
set_option linter.unusedVariables false

theorem own : ownKnob Try.prog.godebug = none := by kernel_rfl
theorem laidOut : laidOutB Try.prog = true := by kernel_rfl

theorem walk (s0 : ByteArray) (a1 : Option Addr) (l1 c1 : Nat) (w : World) (g0 : s0.size ≤ maxLen) (g1 : OpsIn w a1 l1 c1) :
    Calls Try.prog 3 #[.string s0, .slice a1 l1 c1] w fun e w' => e = .returned (.bool true) ∧ Below w.heap.size w w' := exact_runLocks s0 a1 l1 c1 w g0 g1
set_option maxRecDepth 100000 in
theorem lifted (os : Os) (started : os.Started) (H : Type) (enc : TypeId × Value → H) :
    ReturnsInHanded {} Try.checked os 3 .any (Rows.fnExactRunLocksSpec.pre6 enc Try.prog Try.f3 Rows.fnExactRunLocksRow.domain false) (Rows.fnExactRunLocksSpec.post enc Try.prog Try.f3 false true false false) := by
  refine returnsInHanded_of_change (C := Try.checked) own started (by kernel_rfl) Try.func3
    (ChangeSpec.witness6 (enc := enc) (C := Try.checked) false ⟨#[], #[.string ⟨#[]⟩, .slice none 0 0], []⟩ 8 (by kernel_rfl) (by kernel_rfl) (by kernel_rfl) (by kernel_rfl)) ?_
  intro W base args ds gs before hval0 hW hcnd _
  have hval : ∀ (j : Nat) t v, Try.f3.params[j]? = some t → args[j]? = some v → Value.okWide Try.prog W .any base t v := hval0
  have hW' := hW
  obtain ⟨p, q, hA0, hV, rfl, hfz, hnd⟩ := hW
  have hA : DataW.TrodAll enc Try.prog W 0 (fun _ => true) true Try.f3.params.toList args.toList ds p := hA0
  rw [Try.params3] at hA hval
  obtain ⟨v0, vs0, d0, ds0, p0, q0, hargs, rfl, rfl, h0, r0⟩ := trodAll_cons hA
  obtain ⟨v1, vs1, d1, ds1, p1, q1, rfl, rfl, rfl, h1, r1⟩ := trodAll_cons r0
  obtain ⟨rfl, rfl, rfl⟩ := trodAll_nil r1
  obtain rfl : args = #[v0, v1] := by cases args; simp_all
  obtain ⟨rfl, rfl⟩ := trodVars_none hV
  have k0 := h0
  have lt0 : ∀ x ∈ p0, x.block < W.heap.size := by obtain ⟨m, hm⟩ := k0; exact DataW.trod_lt m _ _ _ hm
  obtain ⟨s0, rfl, _, _, g0⟩ := open_string Try.underlying9 (hval 0 9 v0 rfl rfl) h0
  have k1 := h1
  have lt1 : ∀ x ∈ p1, x.block < W.heap.size := by obtain ⟨m, hm⟩ := k1; exact DataW.trod_lt m _ _ _ hm
  obtain ⟨a1, l1, c1, rfl⟩ := okWide_slice Try.underlying22 (hval 1 22 v1 rfl rfl)
  have g1 := open_lops h1
  clear hA0 hval0
  refine (walk s0 a1 l1 c1 W g0 g1).mono fun e W' ⟨he, bel⟩ => ?_
  subst he
  exact ⟨_, rfl, _, _, _, [], _, [], hW', trodAll_mk1 (shut_bool Try.underlying4 _), (trodAll_cons_mk (Below.trod laidOut (by kernel_rfl) (of_decide_eq_true (by kernel_rfl)) k0 bel lt0) (trodAll_cons_mk (Below.trod laidOut (by kernel_rfl) (of_decide_eq_true (by kernel_rfl)) k1 bel lt1) trodAll_mk0)), rfl, bel.frame _, fun h => by cases h⟩

theorem c0 : ((Rows.fnExactRunLocksRow.wf (OpenSpec.ofChange Rows.fnExactRunLocksSpec)) && (laidOutB Try.prog) && (mapsRowed Try.prog) && (Try.f3.params.all (Try.prog.readableRec ·))) = true := by kernel_rfl
theorem c4 : ((namedTie Try.prog Rows.fnExactRunLocksRow.named Rows.fnExactRunLocksSpec.vars) && (Rows.fnExactRunLocksRow.stops == []) && (Try.prog.stops == []) && (Rows.fnExactRunLocksRow.knobs == [])) = true := by kernel_rfl
theorem c8 : ((Try.prog.stopKnobs == []) && (Rows.fnExactRunLocksRow.inPlace == Try.prog.inPlace 3) && (Rows.fnExactRunLocksRow.unfollowed == Try.prog.unfollowed 3) && (Rows.fnExactRunLocksRow.recurses == Try.prog.recurses 3)) = true := by kernel_rfl
theorem c12 : ((Rows.fnExactRunLocksRow.named == Try.prog.varsNamed 3) && ((Rows.fnExactRunLocksRow.maps == (Try.f3.params.toList ++ Rows.fnExactRunLocksSpec.plain.varTypes Try.prog).any (Try.prog.mapsRec ·))) && ((Rows.fnExactRunLocksRow.ifaces == (Try.f3.params.toList ++ Rows.fnExactRunLocksSpec.plain.varTypes Try.prog).any (Try.prog.ifacesRec ·))) && (Rows.fnExactRunLocksRow.mapsOut == Try.prog.mapsAmong Try.f3.resultTypes.toList)) = true := by kernel_rfl
theorem c16 : (((Rows.fnExactRunLocksRow.loops == (Try.f3.params.toList ++ Rows.fnExactRunLocksSpec.plain.varTypes Try.prog).any (Try.prog.loopsFrom ·))) && ((Rows.fnExactRunLocksRow.wideKeys == (Try.f3.params.toList ++ Rows.fnExactRunLocksSpec.plain.varTypes Try.prog ++ Try.f3.resultTypes.toList).any (Try.prog.wideKeysFrom ·))) && (Rows.fnExactRunLocksSpec.vars.all (Try.prog.varReadable ·)) && (Try.f3.resultTypes.all (fun t => Try.prog.readableRec t && decide (t < Try.prog.types.size)))) = true := by kernel_rfl
theorem c20 : (((Rows.fnExactRunLocksRow.ifacesOut == Try.f3.resultTypes.toList.any (Try.prog.ifacesRec ·))) && ((Rows.fnExactRunLocksRow.loopsOut == Try.f3.resultTypes.toList.any (Try.prog.loopsFrom ·))) && (Rows.fnExactRunLocksRow.plainKeys == Try.prog.plainKeys) && (Rows.fnExactRunLocksRow.shortTexts.isNone)) = true := by kernel_rfl
theorem c24 : ((Try.prog.stopsHeard) && (Try.prog.mayEnter) && (Rows.fnExactRunLocksRow.lifted == Try.prog.liftsFinal) && (Try.prog.make == some Rows.fnExactRunLocksRow.make)) = true := by kernel_rfl
theorem c28 : (((Rows.fnExactRunLocksRow.kinds == (if Rows.fnExactRunLocksRow.domain.isEmpty then [] else Try.f3.params.toList.map fun t => match Try.prog.underlying t with | some (.int k) => some k | _ => none))) && (Rows.fnExactRunLocksRow.pinned == Rows.fnExactRunLocksRow.pinnedBy) && ((Rows.fnExactRunLocksRow.veiled == (Try.f3.params.toList ++ Rows.fnExactRunLocksSpec.plain.varTypes Try.prog ++ Try.f3.resultTypes.toList).any (Try.prog.veiledRec ·))) && (Rows.fnExactRunLocksRow.veiledFits Try.prog Try.f3.params.toList (Try.f3.params.toList ++ Rows.fnExactRunLocksSpec.plain.varTypes Try.prog ++ Try.f3.resultTypes.toList))) = true := by kernel_rfl
set_option maxRecDepth 1000000 in
theorem closed : joinedFacts Try.prog 3 Try.f3 Rows.fnExactRunLocksSpec Rows.fnExactRunLocksRow = true := by
  unfold joinedFacts
  exact (and2 (and2 (and2 (and2 (and2 (and2 (and2 (and2 (and2 (and2 (and2 (and2 (and2 (and2 (and2 (and2 (and2 (and2 (and2 (and2 (and2 (and2 (and2 (and2 (and2 (and2 (and2 (and2 (and2 (and2 (and2 (andL (andL (andL c0))) (andR (andL (andL c0)))) (andR (andL c0))) (andR c0)) (andL (andL (andL c4)))) (andR (andL (andL c4)))) (andR (andL c4))) (andR c4)) (andL (andL (andL c8)))) (andR (andL (andL c8)))) (andR (andL c8))) (andR c8)) (andL (andL (andL c12)))) (andR (andL (andL c12)))) (andR (andL c12))) (andR c12)) (andL (andL (andL c16)))) (andR (andL (andL c16)))) (andR (andL c16))) (andR c16)) (andL (andL (andL c20)))) (andR (andL (andL c20)))) (andR (andL c20))) (andR c20)) (andL (andL (andL c24)))) (andR (andL (andL c24)))) (andR (andL c24))) (andR c24)) (andL (andL (andL c28)))) (andR (andL (andL c28)))) (andR (andL c28))) (andR c28))
theorem named : Try.prog.funcNamed Rows.fnExactRunLocksRow.func = some 3 := by kernel_rfl
theorem inst : Try.f3.isInstance Try.prog Rows.fnExactRunLocksRow.origin Rows.fnExactRunLocksRow.targs := of_decide_eq_true (by kernel_rfl)
theorem wrap : Try.f3.isWrapper Try.prog Rows.fnExactRunLocksRow.wrapper Rows.fnExactRunLocksRow.mainSum := by unfold Func.isWrapper; first | (rw [if_pos (by decide +kernel)]; kernel_rfl) | (rw [if_neg (by decide +kernel)]; exact ⟨rfl, rfl⟩)
theorem over : Rows.fnExactRunLocksRow.holds Try.pinned (OpenSpec.ofChange Rows.fnExactRunLocksSpec) :=
  OpenClaim.holds_of_wide 3 Try.f3 rfl rfl rfl rfl rfl rfl rfl ⟨rfl, rfl, rfl, rfl, rfl⟩ rfl rfl rfl rfl rfl named Try.func3 closed inst wrap
    (fun os started H enc _ => lifted os started H enc)

theorem proved : Rows.FnExactRunLocksSaid := over
#print axioms proved
end Go.Proofs.Ytncebpmckbcabaa.fnExactRunLocks

