/-
  The statement, proved. (Names of the texts it rests on were shortened by a program, for the size of the claim.)
-/
import Derived.Test.YtddkjbibjjehjaaGreatDoorRows
import Derived.WalkKit
import Derived.ProofKit
import Derived.OpenShut
import Derived.ShutString
import Derived.ChangeOld
import Derived.Below
import Derived.Test.YtddkjbibjjehjaaGreatDoorSXr4
import Derived.Test.YtddkjbibjjehjaaGreatDoorSXr48
import Derived.LaidMore
import Derived.Lay
import Derived.SevenTiedAt
import Derived.Stop.Joined
import Derived.Test.YtddkjbibjjehjaaGreatDoorCards
import Derived.Test.YtddkjbibjjehjaaGreatDoorTie
import Derived.Test.YtddkjbibjjehjaaGreatDoorSXr1
import Derived.Test.YtddkjbibjjehjaaGreatDoorSXr50
namespace Go.Proofs.YtddkjbibjjehjaaGreatDoor.fnRunDesk
open Go.ChangeShapes Go.WideShapes Go.ChangeAt Go.RowKit
open Go.ChangeMaps (open_string shut_string)
set_option linter.unusedVariables false

theorem own : ownKnob Tryz.prog.godebug = none := by kernel_rfl
theorem laidOut : laidOutB Tryz.prog = true := by kernel_rfl

theorem walk (a0 : Option Addr) (l0 c0 : Nat) (w : World) (hL : Laid w) (g0 : BytesIn w a0 l0 c0) :
    Calls Tryz.prog 4 #[.slice a0 l0 c0] w fun e w' => e = .returned (.bool true) ∧ Below w.heap.size w w' := LC a0 l0 c0 w g0 hL
set_option maxRecDepth 100000 in
theorem lifted (os : Os) (started : os.Started) (H : Type) (enc : TypeId × Value → H) :
    ReturnsInHanded {} Tryz.checked os 4 .any (fun w args => (Rows.fnRunDeskSpec.pre enc Tryz.prog Tryz.f4 Rows.fnRunDeskRow.domain false w args ∧ laidMetH Tryz.prog Rows.fnRunDeskRow.laid w) ∧ sizedMet enc Tryz.prog Tryz.f4 (OpenSpec.ofChange Rows.fnRunDeskSpec) false w args)
      (Rows.fnRunDeskSpec.post enc Tryz.prog Tryz.f4 false true false false) := by
  refine returnsInHanded_of_change_and (C := Tryz.checked) (X := fun w _ => laidMetH Tryz.prog Rows.fnRunDeskRow.laid w) (fun _ _ _ hh h => h.of_heap hh) own started (by kernel_rfl) Tryz.func4
    (ChangeSpec.witness_shaped (enc := enc) (C := Tryz.checked) (os := os) (X := fun w _ => laidMetH Tryz.prog Rows.fnRunDeskRow.laid w) false (og os) #[.slice none 0 0] 8 (zw _)
      (World.shaped_of_ZipB (by kernel_rfl) (by kernel_rfl)) (by kernel_rfl) (by kernel_rfl) (by kernel_rfl)
      (wY os _)) ?_
  intro W base args ds gs before hval0 hW hcnd _ hL _
  have hval : ∀ (j : Nat) t v, Tryz.f4.params[j]? = some t → args[j]? = some v → Value.okWide Tryz.prog W .any base t v := hval0
  have hW' := hW
  obtain ⟨p, q, hA0, hV, rfl, hfz, hnd⟩ := hW
  have hA : DataW.TrodAll enc Tryz.prog W 0 (fun _ => true) true Tryz.f4.params.toList args.toList ds p := hA0
  rw [Tryz.params4] at hA hval
  obtain ⟨v0, vs0, d0, ds0, p0, q0, hargs, rfl, rfl, h0, r0⟩ := trodAll_cons hA
  obtain ⟨rfl, rfl, rfl⟩ := trodAll_nil r0
  obtain rfl : args = #[v0] := by cases args; simp_all
  obtain ⟨rfl, rfl⟩ := trodVars_none hV
  have k0 := h0
  have lt0 : ∀ x ∈ p0, x.block < W.heap.size := by obtain ⟨m, hm⟩ := k0; exact DataW.trod_lt m _ _ _ hm
  obtain ⟨a0, l0, c0, rfl⟩ := okWide_slice Tryz.underlying28 (hval 0 28 v0 rfl rfl)
  have g0 := LU Tryz.underlying28 Tryz.underlying5 (by kernel_rfl) h0
  clear hA0 hval0
  refine (walk a0 l0 c0 W (Lu hL) g0).mono fun e W' ⟨he, Bw⟩ => ?_
  subst he
  exact ⟨_, rfl, _, _, _, [], _, [], hW', trodAll_mk1 (shut_bool Tryz.underlying4 _), (trodAll_cons_mk (Below.trod laidOut (by kernel_rfl) (of_decide_eq_true (by kernel_rfl)) k0 Bw lt0) trodAll_mk0), rfl, Bw.frame _, fun h => by cases h⟩

theorem c0 : ((Rows.fnRunDeskRow.wf (OpenSpec.ofChange Rows.fnRunDeskSpec)) && (laidOutB Tryz.prog) && (mapsRowed Tryz.prog) && (Tryz.f4.params.all (Tryz.prog.readableRec ·))) = true := by kernel_rfl
theorem c4 : ((namedTie Tryz.prog Rows.fnRunDeskRow.named Rows.fnRunDeskSpec.vars) && (Rows.fnRunDeskRow.stops == []) && (Tryz.prog.stops == []) && (Rows.fnRunDeskRow.knobs == [])) = true := by kernel_rfl
theorem c8 : ((Tryz.prog.stopKnobs == []) && (Rows.fnRunDeskRow.inPlace == Tryz.prog.inPlace 4) && (Rows.fnRunDeskRow.unfollowed == Tryz.prog.unfollowed 4) && (Rows.fnRunDeskRow.recurses == Tryz.prog.recurses 4)) = true := by kernel_rfl
theorem c12 : ((Rows.fnRunDeskRow.named == Tryz.prog.varsNamed 4) && ((Rows.fnRunDeskRow.maps == (Tryz.f4.params.toList ++ Rows.fnRunDeskSpec.plain.varTypes Tryz.prog).any (Tryz.prog.mapsRec ·))) && ((Rows.fnRunDeskRow.ifaces == (Tryz.f4.params.toList ++ Rows.fnRunDeskSpec.plain.varTypes Tryz.prog).any (Tryz.prog.ifacesRec ·))) && (Rows.fnRunDeskRow.mapsOut == Tryz.prog.mapsAmong Tryz.f4.resultTypes.toList)) = true := by kernel_rfl
theorem c16 : (((Rows.fnRunDeskRow.loops == (Tryz.f4.params.toList ++ Rows.fnRunDeskSpec.plain.varTypes Tryz.prog).any (Tryz.prog.loopsFrom ·))) && ((Rows.fnRunDeskRow.wideKeys == (Tryz.f4.params.toList ++ Rows.fnRunDeskSpec.plain.varTypes Tryz.prog ++ Tryz.f4.resultTypes.toList).any (Tryz.prog.wideKeysFrom ·))) && (Rows.fnRunDeskSpec.vars.all (Tryz.prog.varReadable ·)) && (Tryz.f4.resultTypes.all (fun t => Tryz.prog.readableRec t && decide (t < Tryz.prog.types.size)))) = true := by kernel_rfl
theorem c20 : (((Rows.fnRunDeskRow.ifacesOut == Tryz.f4.resultTypes.toList.any (Tryz.prog.ifacesRec ·))) && ((Rows.fnRunDeskRow.loopsOut == Tryz.f4.resultTypes.toList.any (Tryz.prog.loopsFrom ·))) && (Rows.fnRunDeskRow.plainKeys == Tryz.prog.plainKeys) && (Rows.fnRunDeskRow.shortTexts.isNone)) = true := by kernel_rfl
theorem c24 : ((Tryz.prog.stopsHeard) && (Tryz.prog.mayEnter) && (Rows.fnRunDeskRow.lifted == Tryz.prog.liftsFinal) && (Tryz.prog.make == some Rows.fnRunDeskRow.make)) = true := by kernel_rfl
theorem c28 : (((Rows.fnRunDeskRow.kinds == (if Rows.fnRunDeskRow.domain.isEmpty then [] else Tryz.f4.params.toList.map fun t => match Tryz.prog.underlying t with | some (.int k) => some k | _ => none))) && (Rows.fnRunDeskRow.pinned == Rows.fnRunDeskRow.pinnedBy) && ((Rows.fnRunDeskRow.veiled == (Tryz.f4.params.toList ++ Rows.fnRunDeskSpec.plain.varTypes Tryz.prog ++ Tryz.f4.resultTypes.toList).any (Tryz.prog.veiledRec ·))) && (Rows.fnRunDeskRow.veiledFits Tryz.prog Tryz.f4.params.toList (Tryz.f4.params.toList ++ Rows.fnRunDeskSpec.plain.varTypes Tryz.prog ++ Tryz.f4.resultTypes.toList))) = true := by kernel_rfl
set_option maxRecDepth 1000000 in
theorem closed : joinedFacts Tryz.prog 4 Tryz.f4 Rows.fnRunDeskSpec Rows.fnRunDeskRow = true := by
  unfold joinedFacts
  exact (dZ (dZ (dZ (dZ (dZ (dZ (dZ (dZ (dZ (dZ (dZ (dZ (dZ (dZ (dZ (dZ (dZ (dZ (dZ (dZ (dZ (dZ (dZ (dZ (dZ (dZ (dZ (dZ (dZ (dZ (dZ (bV (bV (bV c0))) (gF (bV (bV c0)))) (gF (bV c0))) (gF c0)) (bV (bV (bV c4)))) (gF (bV (bV c4)))) (gF (bV c4))) (gF c4)) (bV (bV (bV c8)))) (gF (bV (bV c8)))) (gF (bV c8))) (gF c8)) (bV (bV (bV c12)))) (gF (bV (bV c12)))) (gF (bV c12))) (gF c12)) (bV (bV (bV c16)))) (gF (bV (bV c16)))) (gF (bV c16))) (gF c16)) (bV (bV (bV c20)))) (gF (bV (bV c20)))) (gF (bV c20))) (gF c20)) (bV (bV (bV c24)))) (gF (bV (bV c24)))) (gF (bV c24))) (gF c24)) (bV (bV (bV c28)))) (gF (bV (bV c28)))) (gF (bV c28))) (gF c28))
theorem named : Tryz.prog.funcNamed Rows.fnRunDeskRow.func = some 4 := by kernel_rfl
theorem inst : Tryz.f4.isInstance Tryz.prog Rows.fnRunDeskRow.origin Rows.fnRunDeskRow.targs := of_decide_eq_true (by kernel_rfl)
theorem wrap : Tryz.f4.isWrapper Tryz.prog Rows.fnRunDeskRow.wrapper Rows.fnRunDeskRow.mainSum := by unfold Func.isWrapper; first | (rw [if_pos (by decide +kernel)]; kernel_rfl) | (rw [if_neg (by decide +kernel)]; exact ⟨rfl, rfl⟩)
theorem over : Rows.fnRunDeskRow.holds Tryz.pinned (OpenSpec.ofChange Rows.fnRunDeskSpec) :=
  OpenClaim.holds_of_wide 4 Tryz.f4 rfl rfl rfl rfl rfl rfl rfl ⟨rfl, rfl, rfl, rfl, rfl⟩ rfl rfl rfl rfl rfl named Tryz.func4 closed inst wrap
    (fun os started H enc _ => lifted os started H enc)

theorem proved : Rows.FnRunDeskCardSaid :=
  Claim7.holds_tied_plain_at .later [] [.data, .data, .data, .data, .handle, .pinned] true (true, "1cdade9d593a71752c89110f5081822b441e84cc37a1216c4a718e203753f591") true over (fun _ h => by cases h) (by kernel_rfl) (fun _ h => by cases h) fnRunDesk_row_tie rfl ⟨rfl, rfl⟩ (by kernel_rfl) rfl
    (fun f fn hf hfn => by
      obtain rfl : f = 4 := Option.some.inj ((show Tryz.prog.funcNamed "loop.example/transactionorders/laws.FnRunDesk" = some 4 by kernel_rfl).symm.trans hf) |>.symm
      obtain rfl : fn = Tryz.f4 := (Option.some.inj (Tryz.func4.symm.trans hfn)).symm
      exact ⟨by kernel_rfl, fun j t ht => by
        rw [Tryz.params4] at ht
        have hm : t ∈ [28] := by simpa using Array.mem_of_getElem? ht
        have hall : ([28].all fun u => !Tryz.prog.wantsStandIn u) = true := by kernel_rfl
        exact (show Tryz.prog.wantsStandIn t = false by simpa using List.all_eq_true.1 hall t hm)⟩)
    (by kernel_rfl)
#print axioms proved
end Go.Proofs.YtddkjbibjjehjaaGreatDoor.fnRunDesk

