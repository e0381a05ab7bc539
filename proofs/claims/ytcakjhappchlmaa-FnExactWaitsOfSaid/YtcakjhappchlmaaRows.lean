/-
  No cell of these rows narrows 'for every input' (looked for: loops, veiled, ifaces, maps, wideKeys, modest, calm, conditions, laid).
  DERIVED. THE GIVEN ROWS OF THIS SEAT. 12 by the template 'for every input the law returns true; each argument reads behind the call as it read before'; 0 by the template 'total and deterministic' (their statements: YtcakjhappchlmaaTotals.lean).
  GIVEN WITH THE SEED: the statements are not yours to turn. If you find one false, say at which input.
  Laid BY PROGRAM, IN A SANDBOX (cutbox-rows.mjs): the forced cells as the released guide's own fill.sh prints them over the translation 2c4a2a887869a568… (all of the seat's roots in one cut). By AI agents, Wed Nov 11 2026. No macro, syntax, notation, axiom, sorry.
-/
import Derived.Test.YtcakjhappchlmaaChecked
import GoSem.Claim
import GoSem.ClaimJoined
import GoSem.ClaimMapViews
import Derived.JoinedTies
import Derived.KernelRfl
namespace Go.Proofs.Ytcakjhappchlmaa
/- THE CELL 'sum', in the pinned program and in every row, IS THE sha256 OF THE DUMP (.gsa) THAT YtcakjhappchlmaaProg.lean LOADS. Nothing in Lean hashes anything: it is a label: what it is worth is what the hold of that sum in a sandbox is worth. -/
noncomputable def Try.pinned : Pinned := { name := "ytcakjhappchlmaa", sum := "2c4a2a887869a568884cfe8d5da5145e4b9d258fc984213cab49aaee5eebc671", checked := Try.checked }
namespace Rows
def none {H : Type} : Left H := { results := [], args := [] }

/-- 'laws.FnValidSteps': WHATEVER THE INPUT: true; the input reads as it did. -/
def fnValidStepsSpec : ChangeSpec := { name := "fnValidSteps", fn := fun _ => fun
  | [d] => { results := [.lit (.bool true)], args := [d] }
  | _ => none }
def fnValidStepsRow : OpenClaim := { program := "ytcakjhappchlmaa", sum := "2c4a2a887869a568884cfe8d5da5145e4b9d258fc984213cab49aaee5eebc671", func := "loop.example/transactionorders/laws.FnValidSteps", spec := "fnValidSteps", unfollowed := true, recurses := true, plainKeys := false, apart := false }
def FnValidStepsSaid : Prop := fnValidStepsRow.holds Try.pinned (OpenSpec.ofChange fnValidStepsSpec)

/-- ITS FALSE NEIGHBOUR: 'it returns false'. Refute it at one input. -/
def fnValidStepsWrong : ChangeSpec := { name := "fnValidSteps", fn := fun _ => fun
  | [d] => { results := [.lit (.bool false)], args := [d] }
  | _ => none }
def FnValidStepsWrongFalsely : Prop := fnValidStepsRow.holds Try.pinned (OpenSpec.ofChange fnValidStepsWrong)

/-- 'laws.FnHeldAt': WHATEVER THE INPUT: true; the input reads as it did. -/
def fnHeldAtSpec : ChangeSpec := { name := "fnHeldAt", fn := fun _ => fun
  | [d] => { results := [.lit (.bool true)], args := [d] }
  | _ => none }
def fnHeldAtRow : OpenClaim := { program := "ytcakjhappchlmaa", sum := "2c4a2a887869a568884cfe8d5da5145e4b9d258fc984213cab49aaee5eebc671", func := "loop.example/transactionorders/laws.FnHeldAt", spec := "fnHeldAt", unfollowed := true, recurses := true, plainKeys := false, apart := false }
def FnHeldAtSaid : Prop := fnHeldAtRow.holds Try.pinned (OpenSpec.ofChange fnHeldAtSpec)

/-- ITS FALSE NEIGHBOUR: 'it returns false'. Refute it at one input. -/
def fnHeldAtWrong : ChangeSpec := { name := "fnHeldAt", fn := fun _ => fun
  | [d] => { results := [.lit (.bool false)], args := [d] }
  | _ => none }
def FnHeldAtWrongFalsely : Prop := fnHeldAtRow.holds Try.pinned (OpenSpec.ofChange fnHeldAtWrong)

/-- 'laws.FnIllegalAt': WHATEVER THE INPUT: true; the input reads as it did. -/
def fnIllegalAtSpec : ChangeSpec := { name := "fnIllegalAt", fn := fun _ => fun
  | [d] => { results := [.lit (.bool true)], args := [d] }
  | _ => none }
def fnIllegalAtRow : OpenClaim := { program := "ytcakjhappchlmaa", sum := "2c4a2a887869a568884cfe8d5da5145e4b9d258fc984213cab49aaee5eebc671", func := "loop.example/transactionorders/laws.FnIllegalAt", spec := "fnIllegalAt", unfollowed := true, recurses := true, plainKeys := false, apart := false }
def FnIllegalAtSaid : Prop := fnIllegalAtRow.holds Try.pinned (OpenSpec.ofChange fnIllegalAtSpec)

/-- ITS FALSE NEIGHBOUR: 'it returns false'. Refute it at one input. -/
def fnIllegalAtWrong : ChangeSpec := { name := "fnIllegalAt", fn := fun _ => fun
  | [d] => { results := [.lit (.bool false)], args := [d] }
  | _ => none }
def FnIllegalAtWrongFalsely : Prop := fnIllegalAtRow.holds Try.pinned (OpenSpec.ofChange fnIllegalAtWrong)

/-- 'laws.FnPointsOf': WHATEVER THE INPUT: true; the input reads as it did. -/
def fnPointsOfSpec : ChangeSpec := { name := "fnPointsOf", fn := fun _ => fun
  | [d] => { results := [.lit (.bool true)], args := [d] }
  | _ => none }
def fnPointsOfRow : OpenClaim := { program := "ytcakjhappchlmaa", sum := "2c4a2a887869a568884cfe8d5da5145e4b9d258fc984213cab49aaee5eebc671", func := "loop.example/transactionorders/laws.FnPointsOf", spec := "fnPointsOf", unfollowed := true, recurses := true, plainKeys := false, apart := false }
def FnPointsOfSaid : Prop := fnPointsOfRow.holds Try.pinned (OpenSpec.ofChange fnPointsOfSpec)

/-- ITS FALSE NEIGHBOUR: 'it returns false'. Refute it at one input. -/
def fnPointsOfWrong : ChangeSpec := { name := "fnPointsOf", fn := fun _ => fun
  | [d] => { results := [.lit (.bool false)], args := [d] }
  | _ => none }
def FnPointsOfWrongFalsely : Prop := fnPointsOfRow.holds Try.pinned (OpenSpec.ofChange fnPointsOfWrong)

/-- 'laws.FnAccessesOf': WHATEVER THE INPUT: true; the input reads as it did. -/
def fnAccessesOfSpec : ChangeSpec := { name := "fnAccessesOf", fn := fun _ => fun
  | [d] => { results := [.lit (.bool true)], args := [d] }
  | _ => none }
def fnAccessesOfRow : OpenClaim := { program := "ytcakjhappchlmaa", sum := "2c4a2a887869a568884cfe8d5da5145e4b9d258fc984213cab49aaee5eebc671", func := "loop.example/transactionorders/laws.FnAccessesOf", spec := "fnAccessesOf", unfollowed := true, recurses := true, plainKeys := false, apart := false }
def FnAccessesOfSaid : Prop := fnAccessesOfRow.holds Try.pinned (OpenSpec.ofChange fnAccessesOfSpec)

/-- ITS FALSE NEIGHBOUR: 'it returns false'. Refute it at one input. -/
def fnAccessesOfWrong : ChangeSpec := { name := "fnAccessesOf", fn := fun _ => fun
  | [d] => { results := [.lit (.bool false)], args := [d] }
  | _ => none }
def FnAccessesOfWrongFalsely : Prop := fnAccessesOfRow.holds Try.pinned (OpenSpec.ofChange fnAccessesOfWrong)

/-- 'laws.FnLocksOf': WHATEVER THE INPUT: true; the input reads as it did. -/
def fnLocksOfSpec : ChangeSpec := { name := "fnLocksOf", fn := fun _ => fun
  | [d] => { results := [.lit (.bool true)], args := [d] }
  | _ => none }
def fnLocksOfRow : OpenClaim := { program := "ytcakjhappchlmaa", sum := "2c4a2a887869a568884cfe8d5da5145e4b9d258fc984213cab49aaee5eebc671", func := "loop.example/transactionorders/laws.FnLocksOf", spec := "fnLocksOf", unfollowed := true, recurses := true, plainKeys := false, apart := false }
def FnLocksOfSaid : Prop := fnLocksOfRow.holds Try.pinned (OpenSpec.ofChange fnLocksOfSpec)

/-- ITS FALSE NEIGHBOUR: 'it returns false'. Refute it at one input. -/
def fnLocksOfWrong : ChangeSpec := { name := "fnLocksOf", fn := fun _ => fun
  | [d] => { results := [.lit (.bool false)], args := [d] }
  | _ => none }
def FnLocksOfWrongFalsely : Prop := fnLocksOfRow.holds Try.pinned (OpenSpec.ofChange fnLocksOfWrong)

/-- 'laws.FnIsTreeLocked': WHATEVER THE INPUT: true; the input reads as it did. -/
def fnIsTreeLockedSpec : ChangeSpec := { name := "fnIsTreeLocked", fn := fun _ => fun
  | [d] => { results := [.lit (.bool true)], args := [d] }
  | _ => none }
def fnIsTreeLockedRow : OpenClaim := { program := "ytcakjhappchlmaa", sum := "2c4a2a887869a568884cfe8d5da5145e4b9d258fc984213cab49aaee5eebc671", func := "loop.example/transactionorders/laws.FnIsTreeLocked", spec := "fnIsTreeLocked", unfollowed := true, recurses := true, plainKeys := false, apart := false }
def FnIsTreeLockedSaid : Prop := fnIsTreeLockedRow.holds Try.pinned (OpenSpec.ofChange fnIsTreeLockedSpec)

/-- ITS FALSE NEIGHBOUR: 'it returns false'. Refute it at one input. -/
def fnIsTreeLockedWrong : ChangeSpec := { name := "fnIsTreeLocked", fn := fun _ => fun
  | [d] => { results := [.lit (.bool false)], args := [d] }
  | _ => none }
def FnIsTreeLockedWrongFalsely : Prop := fnIsTreeLockedRow.holds Try.pinned (OpenSpec.ofChange fnIsTreeLockedWrong)

/-- 'laws.FnIsTwoPhase': WHATEVER THE INPUT: true; the input reads as it did. -/
def fnIsTwoPhaseSpec : ChangeSpec := { name := "fnIsTwoPhase", fn := fun _ => fun
  | [d] => { results := [.lit (.bool true)], args := [d] }
  | _ => none }
def fnIsTwoPhaseRow : OpenClaim := { program := "ytcakjhappchlmaa", sum := "2c4a2a887869a568884cfe8d5da5145e4b9d258fc984213cab49aaee5eebc671", func := "loop.example/transactionorders/laws.FnIsTwoPhase", spec := "fnIsTwoPhase", unfollowed := true, recurses := true, plainKeys := false, apart := false }
def FnIsTwoPhaseSaid : Prop := fnIsTwoPhaseRow.holds Try.pinned (OpenSpec.ofChange fnIsTwoPhaseSpec)

/-- ITS FALSE NEIGHBOUR: 'it returns false'. Refute it at one input. -/
def fnIsTwoPhaseWrong : ChangeSpec := { name := "fnIsTwoPhase", fn := fun _ => fun
  | [d] => { results := [.lit (.bool false)], args := [d] }
  | _ => none }
def FnIsTwoPhaseWrongFalsely : Prop := fnIsTwoPhaseRow.holds Try.pinned (OpenSpec.ofChange fnIsTwoPhaseWrong)

/-- 'laws.FnWaitsOf': WHATEVER THE INPUT: true; the input reads as it did. -/
def fnWaitsOfSpec : ChangeSpec := { name := "fnWaitsOf", fn := fun _ => fun
  | [d] => { results := [.lit (.bool true)], args := [d] }
  | _ => none }
def fnWaitsOfRow : OpenClaim := { program := "ytcakjhappchlmaa", sum := "2c4a2a887869a568884cfe8d5da5145e4b9d258fc984213cab49aaee5eebc671", func := "loop.example/transactionorders/laws.FnWaitsOf", spec := "fnWaitsOf", unfollowed := true, recurses := true, plainKeys := false, apart := false }
def FnWaitsOfSaid : Prop := fnWaitsOfRow.holds Try.pinned (OpenSpec.ofChange fnWaitsOfSpec)

/-- ITS FALSE NEIGHBOUR: 'it returns false'. Refute it at one input. -/
def fnWaitsOfWrong : ChangeSpec := { name := "fnWaitsOf", fn := fun _ => fun
  | [d] => { results := [.lit (.bool false)], args := [d] }
  | _ => none }
def FnWaitsOfWrongFalsely : Prop := fnWaitsOfRow.holds Try.pinned (OpenSpec.ofChange fnWaitsOfWrong)

/-- 'laws.FnExactWaitsOf': WHATEVER THE INPUT: true; the input reads as it did. -/
def fnExactWaitsOfSpec : ChangeSpec := { name := "fnExactWaitsOf", fn := fun _ => fun
  | [d1, d2] => { results := [.lit (.bool true)], args := [d1, d2] }
  | _ => none }
def fnExactWaitsOfRow : OpenClaim := { program := "ytcakjhappchlmaa", sum := "2c4a2a887869a568884cfe8d5da5145e4b9d258fc984213cab49aaee5eebc671", func := "loop.example/transactionorders/laws.FnExactWaitsOf", spec := "fnExactWaitsOf", unfollowed := true, recurses := true, plainKeys := false, apart := false }
def FnExactWaitsOfSaid : Prop := fnExactWaitsOfRow.holds Try.pinned (OpenSpec.ofChange fnExactWaitsOfSpec)

/-- ITS FALSE NEIGHBOUR: 'it returns false'. Refute it at one input. -/
def fnExactWaitsOfWrong : ChangeSpec := { name := "fnExactWaitsOf", fn := fun _ => fun
  | [d1, d2] => { results := [.lit (.bool false)], args := [d1, d2] }
  | _ => none }
def FnExactWaitsOfWrongFalsely : Prop := fnExactWaitsOfRow.holds Try.pinned (OpenSpec.ofChange fnExactWaitsOfWrong)

/-- 'laws.FnExactRunLocks': WHATEVER THE INPUT: true; the input reads as it did. -/
def fnExactRunLocksSpec : ChangeSpec := { name := "fnExactRunLocks", fn := fun _ => fun
  | [d1, d2] => { results := [.lit (.bool true)], args := [d1, d2] }
  | _ => none }
def fnExactRunLocksRow : OpenClaim := { program := "ytcakjhappchlmaa", sum := "2c4a2a887869a568884cfe8d5da5145e4b9d258fc984213cab49aaee5eebc671", func := "loop.example/transactionorders/laws.FnExactRunLocks", spec := "fnExactRunLocks", unfollowed := true, recurses := true, plainKeys := false, apart := false }
def FnExactRunLocksSaid : Prop := fnExactRunLocksRow.holds Try.pinned (OpenSpec.ofChange fnExactRunLocksSpec)

/-- ITS FALSE NEIGHBOUR: 'it returns false'. Refute it at one input. -/
def fnExactRunLocksWrong : ChangeSpec := { name := "fnExactRunLocks", fn := fun _ => fun
  | [d1, d2] => { results := [.lit (.bool false)], args := [d1, d2] }
  | _ => none }
def FnExactRunLocksWrongFalsely : Prop := fnExactRunLocksRow.holds Try.pinned (OpenSpec.ofChange fnExactRunLocksWrong)

/-- 'laws.FnRunLocks': WHATEVER THE INPUT: true; the input reads as it did. -/
def fnRunLocksSpec : ChangeSpec := { name := "fnRunLocks", fn := fun _ => fun
  | [d] => { results := [.lit (.bool true)], args := [d] }
  | _ => none }
def fnRunLocksRow : OpenClaim := { program := "ytcakjhappchlmaa", sum := "2c4a2a887869a568884cfe8d5da5145e4b9d258fc984213cab49aaee5eebc671", func := "loop.example/transactionorders/laws.FnRunLocks", spec := "fnRunLocks", unfollowed := true, recurses := true, plainKeys := false, apart := false }
def FnRunLocksSaid : Prop := fnRunLocksRow.holds Try.pinned (OpenSpec.ofChange fnRunLocksSpec)

/-- ITS FALSE NEIGHBOUR: 'it returns false'. Refute it at one input. -/
def fnRunLocksWrong : ChangeSpec := { name := "fnRunLocks", fn := fun _ => fun
  | [d] => { results := [.lit (.bool false)], args := [d] }
  | _ => none }
def FnRunLocksWrongFalsely : Prop := fnRunLocksRow.holds Try.pinned (OpenSpec.ofChange fnRunLocksWrong)

/- THE SECOND FORM. 'bulk': how many values and letters a reading holds, each counted each time it is reached (what is shared counts as often as it is met; a slice's spare places count too). A statement '..UptoSaid' is the law's where the arguments, and the package variables that the reading takes, are together of bulk at most 1048576: NARROWER than '..Said'. Prove '..Said' where nothing that the law and all that it calls make is longer than what came in: it says more and counts as full. Else prove '..UptoSaid'. A law counts once. -/
mutual
def uptoBulk {H : Type} : DataW H → Nat
  | .lit (.string bytes) => bytes.length + 1
  | .lit _ => 1
  | .nil => 1
  | .ptr d => uptoBulk d + 1
  | .slice elems spare => uptoBulkAll elems + uptoBulkAll spare + 1
  | .agg parts => uptoBulkAll parts + 1
  | .iface _ d => uptoBulk d + 1
  | .map entries => uptoBulkEntries entries + 1
  | .held _ => 1
def uptoBulkAll {H : Type} : List (DataW H) → Nat
  | [] => 0
  | d :: r => uptoBulk d + uptoBulkAll r
def uptoBulkEntries {H : Type} : List (Lit × DataW H) → Nat
  | [] => 0
  | x :: r => uptoBulkEntry x + uptoBulkEntries r
def uptoBulkEntry {H : Type} : Lit × DataW H → Nat
  | (.string bytes, d) => bytes.length + uptoBulk d + 1
  | (_, d) => uptoBulk d + 1
 end
def uptoSmall : (H : Type) → List (DataW H) → Bool := fun _ ds => decide (uptoBulkAll ds ≤ 1048576)
def OpenSpec.upto (s : _root_.Go.ChangeSpec) : _root_.Go.OpenSpec := { _root_.Go.OpenSpec.ofChange s with cond := some uptoSmall }

/-- 'laws.FnValidSteps', WHERE WHAT IT READS IS OF BULK AT MOST 1048576: true; the input reads as it did. -/
def fnValidStepsUptoRow : OpenClaim := { program := "ytcakjhappchlmaa", sum := "2c4a2a887869a568884cfe8d5da5145e4b9d258fc984213cab49aaee5eebc671", func := "loop.example/transactionorders/laws.FnValidSteps", spec := "fnValidSteps", unfollowed := true, recurses := true, plainKeys := false, apart := false, narrowed := true }
def FnValidStepsUptoSaid : Prop := fnValidStepsUptoRow.holds Try.pinned (OpenSpec.upto fnValidStepsSpec)

/-- 'laws.FnHeldAt', WHERE WHAT IT READS IS OF BULK AT MOST 1048576: true; the input reads as it did. -/
def fnHeldAtUptoRow : OpenClaim := { program := "ytcakjhappchlmaa", sum := "2c4a2a887869a568884cfe8d5da5145e4b9d258fc984213cab49aaee5eebc671", func := "loop.example/transactionorders/laws.FnHeldAt", spec := "fnHeldAt", unfollowed := true, recurses := true, plainKeys := false, apart := false, narrowed := true }
def FnHeldAtUptoSaid : Prop := fnHeldAtUptoRow.holds Try.pinned (OpenSpec.upto fnHeldAtSpec)

/-- 'laws.FnIllegalAt', WHERE WHAT IT READS IS OF BULK AT MOST 1048576: true; the input reads as it did. -/
def fnIllegalAtUptoRow : OpenClaim := { program := "ytcakjhappchlmaa", sum := "2c4a2a887869a568884cfe8d5da5145e4b9d258fc984213cab49aaee5eebc671", func := "loop.example/transactionorders/laws.FnIllegalAt", spec := "fnIllegalAt", unfollowed := true, recurses := true, plainKeys := false, apart := false, narrowed := true }
def FnIllegalAtUptoSaid : Prop := fnIllegalAtUptoRow.holds Try.pinned (OpenSpec.upto fnIllegalAtSpec)

/-- 'laws.FnPointsOf', WHERE WHAT IT READS IS OF BULK AT MOST 1048576: true; the input reads as it did. -/
def fnPointsOfUptoRow : OpenClaim := { program := "ytcakjhappchlmaa", sum := "2c4a2a887869a568884cfe8d5da5145e4b9d258fc984213cab49aaee5eebc671", func := "loop.example/transactionorders/laws.FnPointsOf", spec := "fnPointsOf", unfollowed := true, recurses := true, plainKeys := false, apart := false, narrowed := true }
def FnPointsOfUptoSaid : Prop := fnPointsOfUptoRow.holds Try.pinned (OpenSpec.upto fnPointsOfSpec)

/-- 'laws.FnAccessesOf', WHERE WHAT IT READS IS OF BULK AT MOST 1048576: true; the input reads as it did. -/
def fnAccessesOfUptoRow : OpenClaim := { program := "ytcakjhappchlmaa", sum := "2c4a2a887869a568884cfe8d5da5145e4b9d258fc984213cab49aaee5eebc671", func := "loop.example/transactionorders/laws.FnAccessesOf", spec := "fnAccessesOf", unfollowed := true, recurses := true, plainKeys := false, apart := false, narrowed := true }
def FnAccessesOfUptoSaid : Prop := fnAccessesOfUptoRow.holds Try.pinned (OpenSpec.upto fnAccessesOfSpec)

/-- 'laws.FnLocksOf', WHERE WHAT IT READS IS OF BULK AT MOST 1048576: true; the input reads as it did. -/
def fnLocksOfUptoRow : OpenClaim := { program := "ytcakjhappchlmaa", sum := "2c4a2a887869a568884cfe8d5da5145e4b9d258fc984213cab49aaee5eebc671", func := "loop.example/transactionorders/laws.FnLocksOf", spec := "fnLocksOf", unfollowed := true, recurses := true, plainKeys := false, apart := false, narrowed := true }
def FnLocksOfUptoSaid : Prop := fnLocksOfUptoRow.holds Try.pinned (OpenSpec.upto fnLocksOfSpec)

/-- 'laws.FnIsTreeLocked', WHERE WHAT IT READS IS OF BULK AT MOST 1048576: true; the input reads as it did. -/
def fnIsTreeLockedUptoRow : OpenClaim := { program := "ytcakjhappchlmaa", sum := "2c4a2a887869a568884cfe8d5da5145e4b9d258fc984213cab49aaee5eebc671", func := "loop.example/transactionorders/laws.FnIsTreeLocked", spec := "fnIsTreeLocked", unfollowed := true, recurses := true, plainKeys := false, apart := false, narrowed := true }
def FnIsTreeLockedUptoSaid : Prop := fnIsTreeLockedUptoRow.holds Try.pinned (OpenSpec.upto fnIsTreeLockedSpec)

/-- 'laws.FnIsTwoPhase', WHERE WHAT IT READS IS OF BULK AT MOST 1048576: true; the input reads as it did. -/
def fnIsTwoPhaseUptoRow : OpenClaim := { program := "ytcakjhappchlmaa", sum := "2c4a2a887869a568884cfe8d5da5145e4b9d258fc984213cab49aaee5eebc671", func := "loop.example/transactionorders/laws.FnIsTwoPhase", spec := "fnIsTwoPhase", unfollowed := true, recurses := true, plainKeys := false, apart := false, narrowed := true }
def FnIsTwoPhaseUptoSaid : Prop := fnIsTwoPhaseUptoRow.holds Try.pinned (OpenSpec.upto fnIsTwoPhaseSpec)

/-- 'laws.FnWaitsOf', WHERE WHAT IT READS IS OF BULK AT MOST 1048576: true; the input reads as it did. -/
def fnWaitsOfUptoRow : OpenClaim := { program := "ytcakjhappchlmaa", sum := "2c4a2a887869a568884cfe8d5da5145e4b9d258fc984213cab49aaee5eebc671", func := "loop.example/transactionorders/laws.FnWaitsOf", spec := "fnWaitsOf", unfollowed := true, recurses := true, plainKeys := false, apart := false, narrowed := true }
def FnWaitsOfUptoSaid : Prop := fnWaitsOfUptoRow.holds Try.pinned (OpenSpec.upto fnWaitsOfSpec)

/-- 'laws.FnExactWaitsOf', WHERE WHAT IT READS IS OF BULK AT MOST 1048576: true; the input reads as it did. -/
def fnExactWaitsOfUptoRow : OpenClaim := { program := "ytcakjhappchlmaa", sum := "2c4a2a887869a568884cfe8d5da5145e4b9d258fc984213cab49aaee5eebc671", func := "loop.example/transactionorders/laws.FnExactWaitsOf", spec := "fnExactWaitsOf", unfollowed := true, recurses := true, plainKeys := false, apart := false, narrowed := true }
def FnExactWaitsOfUptoSaid : Prop := fnExactWaitsOfUptoRow.holds Try.pinned (OpenSpec.upto fnExactWaitsOfSpec)

/-- 'laws.FnExactRunLocks', WHERE WHAT IT READS IS OF BULK AT MOST 1048576: true; the input reads as it did. -/
def fnExactRunLocksUptoRow : OpenClaim := { program := "ytcakjhappchlmaa", sum := "2c4a2a887869a568884cfe8d5da5145e4b9d258fc984213cab49aaee5eebc671", func := "loop.example/transactionorders/laws.FnExactRunLocks", spec := "fnExactRunLocks", unfollowed := true, recurses := true, plainKeys := false, apart := false, narrowed := true }
def FnExactRunLocksUptoSaid : Prop := fnExactRunLocksUptoRow.holds Try.pinned (OpenSpec.upto fnExactRunLocksSpec)

/-- 'laws.FnRunLocks', WHERE WHAT IT READS IS OF BULK AT MOST 1048576: true; the input reads as it did. -/
def fnRunLocksUptoRow : OpenClaim := { program := "ytcakjhappchlmaa", sum := "2c4a2a887869a568884cfe8d5da5145e4b9d258fc984213cab49aaee5eebc671", func := "loop.example/transactionorders/laws.FnRunLocks", spec := "fnRunLocks", unfollowed := true, recurses := true, plainKeys := false, apart := false, narrowed := true }
def FnRunLocksUptoSaid : Prop := fnRunLocksUptoRow.holds Try.pinned (OpenSpec.upto fnRunLocksSpec)

end Rows
end Go.Proofs.Ytcakjhappchlmaa
