/-
  No cell of these rows narrows 'for every input' (looked for: loops, veiled, ifaces, maps, wideKeys, modest, calm, conditions, laid).
  DERIVED. THE GIVEN ROWS OF THIS SEAT. 12 by the template 'for every input the law returns true; each argument reads behind the call as it read before'; 0 by the template 'total and deterministic' (their statements: YtofcpfabjfhjoaaTotals.lean).
  GIVEN WITH THE SEED: the statements are not yours to turn. If you find one false, say at which input.
  Laid BY PROGRAM, IN A SANDBOX (cutbox-rows.mjs): the forced cells as the released guide's own fill.sh prints them over the translation b1f8be0d56b014a2… (all of the seat's roots in one cut). By AI agents, Wed Nov 11 2026. No macro, syntax, notation, axiom, sorry.
-/
import Derived.Test.YtofcpfabjfhjoaaChecked
import GoSem.Claim
import GoSem.ClaimJoined
import GoSem.ClaimMapViews
import Derived.JoinedTies
import Derived.KernelRfl
namespace Go.Proofs.Ytofcpfabjfhjoaa
/- THE CELL 'sum', in the pinned program and in every row, IS THE sha256 OF THE DUMP (.gsa) THAT YtofcpfabjfhjoaaProg.lean LOADS. Nothing in Lean hashes anything: it is a label: what it is worth is what the hold of that sum in a sandbox is worth. -/
noncomputable def Try.pinned : Pinned := { name := "ytofcpfabjfhjoaa", sum := "b1f8be0d56b014a2b713ca05373517bc58da30b8418026ba77e35f281759bd8a", checked := Try.checked }
namespace Rows
def none {H : Type} : Left H := { results := [], args := [] }

/-- 'laws.FnSurvivorsOf': WHATEVER THE INPUT: true; the input reads as it did. -/
def fnSurvivorsOfSpec : ChangeSpec := { name := "fnSurvivorsOf", fn := fun _ => fun
  | [d] => { results := [.lit (.bool true)], args := [d] }
  | _ => none }
def fnSurvivorsOfRow : OpenClaim := { program := "ytofcpfabjfhjoaa", sum := "b1f8be0d56b014a2b713ca05373517bc58da30b8418026ba77e35f281759bd8a", func := "loop.example/transactionorders/laws.FnSurvivorsOf", spec := "fnSurvivorsOf", unfollowed := true, recurses := true, plainKeys := false, apart := false }
def FnSurvivorsOfSaid : Prop := fnSurvivorsOfRow.holds Try.pinned (OpenSpec.ofChange fnSurvivorsOfSpec)

/-- ITS FALSE NEIGHBOUR: 'it returns false'. Refute it at one input. -/
def fnSurvivorsOfWrong : ChangeSpec := { name := "fnSurvivorsOf", fn := fun _ => fun
  | [d] => { results := [.lit (.bool false)], args := [d] }
  | _ => none }
def FnSurvivorsOfWrongFalsely : Prop := fnSurvivorsOfRow.holds Try.pinned (OpenSpec.ofChange fnSurvivorsOfWrong)

/-- 'laws.FnExactPivotOf': WHATEVER THE INPUT: true; the input reads as it did. -/
def fnExactPivotOfSpec : ChangeSpec := { name := "fnExactPivotOf", fn := fun _ => fun
  | [d] => { results := [.lit (.bool true)], args := [d] }
  | _ => none }
def fnExactPivotOfRow : OpenClaim := { program := "ytofcpfabjfhjoaa", sum := "b1f8be0d56b014a2b713ca05373517bc58da30b8418026ba77e35f281759bd8a", func := "loop.example/transactionorders/laws.FnExactPivotOf", spec := "fnExactPivotOf", unfollowed := true, recurses := true, plainKeys := false, apart := false }
def FnExactPivotOfSaid : Prop := fnExactPivotOfRow.holds Try.pinned (OpenSpec.ofChange fnExactPivotOfSpec)

/-- ITS FALSE NEIGHBOUR: 'it returns false'. Refute it at one input. -/
def fnExactPivotOfWrong : ChangeSpec := { name := "fnExactPivotOf", fn := fun _ => fun
  | [d] => { results := [.lit (.bool false)], args := [d] }
  | _ => none }
def FnExactPivotOfWrongFalsely : Prop := fnExactPivotOfRow.holds Try.pinned (OpenSpec.ofChange fnExactPivotOfWrong)

/-- 'laws.FnExactVersionGraph': WHATEVER THE INPUT: true; the input reads as it did. -/
def fnExactVersionGraphSpec : ChangeSpec := { name := "fnExactVersionGraph", fn := fun _ => fun
  | [d] => { results := [.lit (.bool true)], args := [d] }
  | _ => none }
def fnExactVersionGraphRow : OpenClaim := { program := "ytofcpfabjfhjoaa", sum := "b1f8be0d56b014a2b713ca05373517bc58da30b8418026ba77e35f281759bd8a", func := "loop.example/transactionorders/laws.FnExactVersionGraph", spec := "fnExactVersionGraph", unfollowed := true, recurses := true, plainKeys := false, apart := false }
def FnExactVersionGraphSaid : Prop := fnExactVersionGraphRow.holds Try.pinned (OpenSpec.ofChange fnExactVersionGraphSpec)

/-- ITS FALSE NEIGHBOUR: 'it returns false'. Refute it at one input. -/
def fnExactVersionGraphWrong : ChangeSpec := { name := "fnExactVersionGraph", fn := fun _ => fun
  | [d] => { results := [.lit (.bool false)], args := [d] }
  | _ => none }
def FnExactVersionGraphWrongFalsely : Prop := fnExactVersionGraphRow.holds Try.pinned (OpenSpec.ofChange fnExactVersionGraphWrong)

/-- 'laws.FnPivotOf': WHATEVER THE INPUT: true; the input reads as it did. -/
def fnPivotOfSpec : ChangeSpec := { name := "fnPivotOf", fn := fun _ => fun
  | [d] => { results := [.lit (.bool true)], args := [d] }
  | _ => none }
def fnPivotOfRow : OpenClaim := { program := "ytofcpfabjfhjoaa", sum := "b1f8be0d56b014a2b713ca05373517bc58da30b8418026ba77e35f281759bd8a", func := "loop.example/transactionorders/laws.FnPivotOf", spec := "fnPivotOf", unfollowed := true, recurses := true, plainKeys := false, apart := false }
def FnPivotOfSaid : Prop := fnPivotOfRow.holds Try.pinned (OpenSpec.ofChange fnPivotOfSpec)

/-- ITS FALSE NEIGHBOUR: 'it returns false'. Refute it at one input. -/
def fnPivotOfWrong : ChangeSpec := { name := "fnPivotOf", fn := fun _ => fun
  | [d] => { results := [.lit (.bool false)], args := [d] }
  | _ => none }
def FnPivotOfWrongFalsely : Prop := fnPivotOfRow.holds Try.pinned (OpenSpec.ofChange fnPivotOfWrong)

/-- 'laws.FnAgainstOf': WHATEVER THE INPUT: true; the input reads as it did. -/
def fnAgainstOfSpec : ChangeSpec := { name := "fnAgainstOf", fn := fun _ => fun
  | [d] => { results := [.lit (.bool true)], args := [d] }
  | _ => none }
def fnAgainstOfRow : OpenClaim := { program := "ytofcpfabjfhjoaa", sum := "b1f8be0d56b014a2b713ca05373517bc58da30b8418026ba77e35f281759bd8a", func := "loop.example/transactionorders/laws.FnAgainstOf", spec := "fnAgainstOf", unfollowed := true, recurses := true, plainKeys := false, apart := false }
def FnAgainstOfSaid : Prop := fnAgainstOfRow.holds Try.pinned (OpenSpec.ofChange fnAgainstOfSpec)

/-- ITS FALSE NEIGHBOUR: 'it returns false'. Refute it at one input. -/
def fnAgainstOfWrong : ChangeSpec := { name := "fnAgainstOf", fn := fun _ => fun
  | [d] => { results := [.lit (.bool false)], args := [d] }
  | _ => none }
def FnAgainstOfWrongFalsely : Prop := fnAgainstOfRow.holds Try.pinned (OpenSpec.ofChange fnAgainstOfWrong)

/-- 'laws.FnVersionsOf': WHATEVER THE INPUT: true; the input reads as it did. -/
def fnVersionsOfSpec : ChangeSpec := { name := "fnVersionsOf", fn := fun _ => fun
  | [d] => { results := [.lit (.bool true)], args := [d] }
  | _ => none }
def fnVersionsOfRow : OpenClaim := { program := "ytofcpfabjfhjoaa", sum := "b1f8be0d56b014a2b713ca05373517bc58da30b8418026ba77e35f281759bd8a", func := "loop.example/transactionorders/laws.FnVersionsOf", spec := "fnVersionsOf", unfollowed := true, recurses := true, plainKeys := false, apart := false }
def FnVersionsOfSaid : Prop := fnVersionsOfRow.holds Try.pinned (OpenSpec.ofChange fnVersionsOfSpec)

/-- ITS FALSE NEIGHBOUR: 'it returns false'. Refute it at one input. -/
def fnVersionsOfWrong : ChangeSpec := { name := "fnVersionsOf", fn := fun _ => fun
  | [d] => { results := [.lit (.bool false)], args := [d] }
  | _ => none }
def FnVersionsOfWrongFalsely : Prop := fnVersionsOfRow.holds Try.pinned (OpenSpec.ofChange fnVersionsOfWrong)

/-- 'laws.FnVersionGraph': WHATEVER THE INPUT: true; the input reads as it did. -/
def fnVersionGraphSpec : ChangeSpec := { name := "fnVersionGraph", fn := fun _ => fun
  | [d] => { results := [.lit (.bool true)], args := [d] }
  | _ => none }
def fnVersionGraphRow : OpenClaim := { program := "ytofcpfabjfhjoaa", sum := "b1f8be0d56b014a2b713ca05373517bc58da30b8418026ba77e35f281759bd8a", func := "loop.example/transactionorders/laws.FnVersionGraph", spec := "fnVersionGraph", unfollowed := true, recurses := true, plainKeys := false, apart := false }
def FnVersionGraphSaid : Prop := fnVersionGraphRow.holds Try.pinned (OpenSpec.ofChange fnVersionGraphSpec)

/-- ITS FALSE NEIGHBOUR: 'it returns false'. Refute it at one input. -/
def fnVersionGraphWrong : ChangeSpec := { name := "fnVersionGraph", fn := fun _ => fun
  | [d] => { results := [.lit (.bool false)], args := [d] }
  | _ => none }
def FnVersionGraphWrongFalsely : Prop := fnVersionGraphRow.holds Try.pinned (OpenSpec.ofChange fnVersionGraphWrong)

/-- 'laws.FnExactSnapshotOrders': WHATEVER THE INPUT: true; the input reads as it did. -/
def fnExactSnapshotOrdersSpec : ChangeSpec := { name := "fnExactSnapshotOrders", fn := fun _ => fun
  | [d] => { results := [.lit (.bool true)], args := [d] }
  | _ => none }
def fnExactSnapshotOrdersRow : OpenClaim := { program := "ytofcpfabjfhjoaa", sum := "b1f8be0d56b014a2b713ca05373517bc58da30b8418026ba77e35f281759bd8a", func := "loop.example/transactionorders/laws.FnExactSnapshotOrders", spec := "fnExactSnapshotOrders", unfollowed := true, recurses := true, plainKeys := false, apart := false }
def FnExactSnapshotOrdersSaid : Prop := fnExactSnapshotOrdersRow.holds Try.pinned (OpenSpec.ofChange fnExactSnapshotOrdersSpec)

/-- ITS FALSE NEIGHBOUR: 'it returns false'. Refute it at one input. -/
def fnExactSnapshotOrdersWrong : ChangeSpec := { name := "fnExactSnapshotOrders", fn := fun _ => fun
  | [d] => { results := [.lit (.bool false)], args := [d] }
  | _ => none }
def FnExactSnapshotOrdersWrongFalsely : Prop := fnExactSnapshotOrdersRow.holds Try.pinned (OpenSpec.ofChange fnExactSnapshotOrdersWrong)

/-- 'laws.FnSnapshotOrders': WHATEVER THE INPUT: true; the input reads as it did. -/
def fnSnapshotOrdersSpec : ChangeSpec := { name := "fnSnapshotOrders", fn := fun _ => fun
  | [d] => { results := [.lit (.bool true)], args := [d] }
  | _ => none }
def fnSnapshotOrdersRow : OpenClaim := { program := "ytofcpfabjfhjoaa", sum := "b1f8be0d56b014a2b713ca05373517bc58da30b8418026ba77e35f281759bd8a", func := "loop.example/transactionorders/laws.FnSnapshotOrders", spec := "fnSnapshotOrders", unfollowed := true, recurses := true, plainKeys := false, apart := false }
def FnSnapshotOrdersSaid : Prop := fnSnapshotOrdersRow.holds Try.pinned (OpenSpec.ofChange fnSnapshotOrdersSpec)

/-- ITS FALSE NEIGHBOUR: 'it returns false'. Refute it at one input. -/
def fnSnapshotOrdersWrong : ChangeSpec := { name := "fnSnapshotOrders", fn := fun _ => fun
  | [d] => { results := [.lit (.bool false)], args := [d] }
  | _ => none }
def FnSnapshotOrdersWrongFalsely : Prop := fnSnapshotOrdersRow.holds Try.pinned (OpenSpec.ofChange fnSnapshotOrdersWrong)

/-- 'laws.FnExactRunChecks': WHATEVER THE INPUT: true; the input reads as it did. -/
def fnExactRunChecksSpec : ChangeSpec := { name := "fnExactRunChecks", fn := fun _ => fun
  | [d] => { results := [.lit (.bool true)], args := [d] }
  | _ => none }
def fnExactRunChecksRow : OpenClaim := { program := "ytofcpfabjfhjoaa", sum := "b1f8be0d56b014a2b713ca05373517bc58da30b8418026ba77e35f281759bd8a", func := "loop.example/transactionorders/laws.FnExactRunChecks", spec := "fnExactRunChecks", unfollowed := true, recurses := true, plainKeys := false, apart := false }
def FnExactRunChecksSaid : Prop := fnExactRunChecksRow.holds Try.pinned (OpenSpec.ofChange fnExactRunChecksSpec)

/-- ITS FALSE NEIGHBOUR: 'it returns false'. Refute it at one input. -/
def fnExactRunChecksWrong : ChangeSpec := { name := "fnExactRunChecks", fn := fun _ => fun
  | [d] => { results := [.lit (.bool false)], args := [d] }
  | _ => none }
def FnExactRunChecksWrongFalsely : Prop := fnExactRunChecksRow.holds Try.pinned (OpenSpec.ofChange fnExactRunChecksWrong)

/-- 'laws.FnRunChecks': WHATEVER THE INPUT: true; the input reads as it did. -/
def fnRunChecksSpec : ChangeSpec := { name := "fnRunChecks", fn := fun _ => fun
  | [d] => { results := [.lit (.bool true)], args := [d] }
  | _ => none }
def fnRunChecksRow : OpenClaim := { program := "ytofcpfabjfhjoaa", sum := "b1f8be0d56b014a2b713ca05373517bc58da30b8418026ba77e35f281759bd8a", func := "loop.example/transactionorders/laws.FnRunChecks", spec := "fnRunChecks", unfollowed := true, recurses := true, plainKeys := false, apart := false }
def FnRunChecksSaid : Prop := fnRunChecksRow.holds Try.pinned (OpenSpec.ofChange fnRunChecksSpec)

/-- ITS FALSE NEIGHBOUR: 'it returns false'. Refute it at one input. -/
def fnRunChecksWrong : ChangeSpec := { name := "fnRunChecks", fn := fun _ => fun
  | [d] => { results := [.lit (.bool false)], args := [d] }
  | _ => none }
def FnRunChecksWrongFalsely : Prop := fnRunChecksRow.holds Try.pinned (OpenSpec.ofChange fnRunChecksWrong)

/-- 'laws.FnRunStamps': WHATEVER THE INPUT: true; the input reads as it did. -/
def fnRunStampsSpec : ChangeSpec := { name := "fnRunStamps", fn := fun _ => fun
  | [d] => { results := [.lit (.bool true)], args := [d] }
  | _ => none }
def fnRunStampsRow : OpenClaim := { program := "ytofcpfabjfhjoaa", sum := "b1f8be0d56b014a2b713ca05373517bc58da30b8418026ba77e35f281759bd8a", func := "loop.example/transactionorders/laws.FnRunStamps", spec := "fnRunStamps", inPlace := ["(*internal/sync.Mutex).Lock", "internal/race.Disable", "sync/atomic.CompareAndSwapInt32", "internal/race.Enable", "internal/race.Acquire", "(*internal/sync.Mutex).lockSlow", "internal/sync.runtime_canSpin", "internal/sync.runtime_doSpin", "internal/sync.throw", "internal/sync.runtime_nanotime", "internal/sync.runtime_SemacquireMutex", "sync/atomic.AddInt32", "(*internal/sync.Mutex).Unlock", "internal/race.ReleaseMerge", "(*internal/sync.Mutex).unlockSlow", "internal/sync.fatal", "internal/sync.runtime_Semrelease"], unfollowed := true, recurses := true, plainKeys := false, apart := false }
def FnRunStampsSaid : Prop := fnRunStampsRow.holds Try.pinned (OpenSpec.ofChange fnRunStampsSpec)

/-- ITS FALSE NEIGHBOUR: 'it returns false'. Refute it at one input. -/
def fnRunStampsWrong : ChangeSpec := { name := "fnRunStamps", fn := fun _ => fun
  | [d] => { results := [.lit (.bool false)], args := [d] }
  | _ => none }
def FnRunStampsWrongFalsely : Prop := fnRunStampsRow.holds Try.pinned (OpenSpec.ofChange fnRunStampsWrong)

/- THE SECOND FORM. 'bulk': how many values and letters a reading holds, each counted each time it is reached (what is shared counts as often as it is met; a slice's spare places count too). A statement '..UptoSaid' is the law's where the arguments, and the package variables that the reading takes, are together of bulk at most 1048576: NARROWER than '..Said'. Prove '..Said' where nothing that the law and all that it calls make is longer than what came in: it says more and counts as full. Else prove '..UptoSaid'. A law counts once. -/
mutual
def uptoBulk {H : Type} : DataW H → Nat
  | .lit (.string bytes) => bytes.length + 1
  | .lit _ => 1
  | .nil => 1
  | .ptr d => uptoBulk d + 1
  | .slice elems spare => uptoBulkAll elems + uptoBulkAll spare + 1
  | .agg parts => uptoBulkAll parts + 1
  | .iface _ d => uptoBulk d + 1
  | .map entries => uptoBulkEntries entries + 1
  | .held _ => 1
def uptoBulkAll {H : Type} : List (DataW H) → Nat
  | [] => 0
  | d :: r => uptoBulk d + uptoBulkAll r
def uptoBulkEntries {H : Type} : List (Lit × DataW H) → Nat
  | [] => 0
  | x :: r => uptoBulkEntry x + uptoBulkEntries r
def uptoBulkEntry {H : Type} : Lit × DataW H → Nat
  | (.string bytes, d) => bytes.length + uptoBulk d + 1
  | (_, d) => uptoBulk d + 1
 end
def uptoSmall : (H : Type) → List (DataW H) → Bool := fun _ ds => decide (uptoBulkAll ds ≤ 1048576)
def OpenSpec.upto (s : _root_.Go.ChangeSpec) : _root_.Go.OpenSpec := { _root_.Go.OpenSpec.ofChange s with cond := some uptoSmall }

/-- 'laws.FnSurvivorsOf', WHERE WHAT IT READS IS OF BULK AT MOST 1048576: true; the input reads as it did. -/
def fnSurvivorsOfUptoRow : OpenClaim := { program := "ytofcpfabjfhjoaa", sum := "b1f8be0d56b014a2b713ca05373517bc58da30b8418026ba77e35f281759bd8a", func := "loop.example/transactionorders/laws.FnSurvivorsOf", spec := "fnSurvivorsOf", unfollowed := true, recurses := true, plainKeys := false, apart := false, narrowed := true }
def FnSurvivorsOfUptoSaid : Prop := fnSurvivorsOfUptoRow.holds Try.pinned (OpenSpec.upto fnSurvivorsOfSpec)

/-- 'laws.FnExactPivotOf', WHERE WHAT IT READS IS OF BULK AT MOST 1048576: true; the input reads as it did. -/
def fnExactPivotOfUptoRow : OpenClaim := { program := "ytofcpfabjfhjoaa", sum := "b1f8be0d56b014a2b713ca05373517bc58da30b8418026ba77e35f281759bd8a", func := "loop.example/transactionorders/laws.FnExactPivotOf", spec := "fnExactPivotOf", unfollowed := true, recurses := true, plainKeys := false, apart := false, narrowed := true }
def FnExactPivotOfUptoSaid : Prop := fnExactPivotOfUptoRow.holds Try.pinned (OpenSpec.upto fnExactPivotOfSpec)

/-- 'laws.FnExactVersionGraph', WHERE WHAT IT READS IS OF BULK AT MOST 1048576: true; the input reads as it did. -/
def fnExactVersionGraphUptoRow : OpenClaim := { program := "ytofcpfabjfhjoaa", sum := "b1f8be0d56b014a2b713ca05373517bc58da30b8418026ba77e35f281759bd8a", func := "loop.example/transactionorders/laws.FnExactVersionGraph", spec := "fnExactVersionGraph", unfollowed := true, recurses := true, plainKeys := false, apart := false, narrowed := true }
def FnExactVersionGraphUptoSaid : Prop := fnExactVersionGraphUptoRow.holds Try.pinned (OpenSpec.upto fnExactVersionGraphSpec)

/-- 'laws.FnPivotOf', WHERE WHAT IT READS IS OF BULK AT MOST 1048576: true; the input reads as it did. -/
def fnPivotOfUptoRow : OpenClaim := { program := "ytofcpfabjfhjoaa", sum := "b1f8be0d56b014a2b713ca05373517bc58da30b8418026ba77e35f281759bd8a", func := "loop.example/transactionorders/laws.FnPivotOf", spec := "fnPivotOf", unfollowed := true, recurses := true, plainKeys := false, apart := false, narrowed := true }
def FnPivotOfUptoSaid : Prop := fnPivotOfUptoRow.holds Try.pinned (OpenSpec.upto fnPivotOfSpec)

/-- 'laws.FnAgainstOf', WHERE WHAT IT READS IS OF BULK AT MOST 1048576: true; the input reads as it did. -/
def fnAgainstOfUptoRow : OpenClaim := { program := "ytofcpfabjfhjoaa", sum := "b1f8be0d56b014a2b713ca05373517bc58da30b8418026ba77e35f281759bd8a", func := "loop.example/transactionorders/laws.FnAgainstOf", spec := "fnAgainstOf", unfollowed := true, recurses := true, plainKeys := false, apart := false, narrowed := true }
def FnAgainstOfUptoSaid : Prop := fnAgainstOfUptoRow.holds Try.pinned (OpenSpec.upto fnAgainstOfSpec)

/-- 'laws.FnVersionsOf', WHERE WHAT IT READS IS OF BULK AT MOST 1048576: true; the input reads as it did. -/
def fnVersionsOfUptoRow : OpenClaim := { program := "ytofcpfabjfhjoaa", sum := "b1f8be0d56b014a2b713ca05373517bc58da30b8418026ba77e35f281759bd8a", func := "loop.example/transactionorders/laws.FnVersionsOf", spec := "fnVersionsOf", unfollowed := true, recurses := true, plainKeys := false, apart := false, narrowed := true }
def FnVersionsOfUptoSaid : Prop := fnVersionsOfUptoRow.holds Try.pinned (OpenSpec.upto fnVersionsOfSpec)

/-- 'laws.FnVersionGraph', WHERE WHAT IT READS IS OF BULK AT MOST 1048576: true; the input reads as it did. -/
def fnVersionGraphUptoRow : OpenClaim := { program := "ytofcpfabjfhjoaa", sum := "b1f8be0d56b014a2b713ca05373517bc58da30b8418026ba77e35f281759bd8a", func := "loop.example/transactionorders/laws.FnVersionGraph", spec := "fnVersionGraph", unfollowed := true, recurses := true, plainKeys := false, apart := false, narrowed := true }
def FnVersionGraphUptoSaid : Prop := fnVersionGraphUptoRow.holds Try.pinned (OpenSpec.upto fnVersionGraphSpec)

/-- 'laws.FnExactSnapshotOrders', WHERE WHAT IT READS IS OF BULK AT MOST 1048576: true; the input reads as it did. -/
def fnExactSnapshotOrdersUptoRow : OpenClaim := { program := "ytofcpfabjfhjoaa", sum := "b1f8be0d56b014a2b713ca05373517bc58da30b8418026ba77e35f281759bd8a", func := "loop.example/transactionorders/laws.FnExactSnapshotOrders", spec := "fnExactSnapshotOrders", unfollowed := true, recurses := true, plainKeys := false, apart := false, narrowed := true }
def FnExactSnapshotOrdersUptoSaid : Prop := fnExactSnapshotOrdersUptoRow.holds Try.pinned (OpenSpec.upto fnExactSnapshotOrdersSpec)

/-- 'laws.FnSnapshotOrders', WHERE WHAT IT READS IS OF BULK AT MOST 1048576: true; the input reads as it did. -/
def fnSnapshotOrdersUptoRow : OpenClaim := { program := "ytofcpfabjfhjoaa", sum := "b1f8be0d56b014a2b713ca05373517bc58da30b8418026ba77e35f281759bd8a", func := "loop.example/transactionorders/laws.FnSnapshotOrders", spec := "fnSnapshotOrders", unfollowed := true, recurses := true, plainKeys := false, apart := false, narrowed := true }
def FnSnapshotOrdersUptoSaid : Prop := fnSnapshotOrdersUptoRow.holds Try.pinned (OpenSpec.upto fnSnapshotOrdersSpec)

/-- 'laws.FnExactRunChecks', WHERE WHAT IT READS IS OF BULK AT MOST 1048576: true; the input reads as it did. -/
def fnExactRunChecksUptoRow : OpenClaim := { program := "ytofcpfabjfhjoaa", sum := "b1f8be0d56b014a2b713ca05373517bc58da30b8418026ba77e35f281759bd8a", func := "loop.example/transactionorders/laws.FnExactRunChecks", spec := "fnExactRunChecks", unfollowed := true, recurses := true, plainKeys := false, apart := false, narrowed := true }
def FnExactRunChecksUptoSaid : Prop := fnExactRunChecksUptoRow.holds Try.pinned (OpenSpec.upto fnExactRunChecksSpec)

/-- 'laws.FnRunChecks', WHERE WHAT IT READS IS OF BULK AT MOST 1048576: true; the input reads as it did. -/
def fnRunChecksUptoRow : OpenClaim := { program := "ytofcpfabjfhjoaa", sum := "b1f8be0d56b014a2b713ca05373517bc58da30b8418026ba77e35f281759bd8a", func := "loop.example/transactionorders/laws.FnRunChecks", spec := "fnRunChecks", unfollowed := true, recurses := true, plainKeys := false, apart := false, narrowed := true }
def FnRunChecksUptoSaid : Prop := fnRunChecksUptoRow.holds Try.pinned (OpenSpec.upto fnRunChecksSpec)

/-- 'laws.FnRunStamps', WHERE WHAT IT READS IS OF BULK AT MOST 1048576: true; the input reads as it did. -/
def fnRunStampsUptoRow : OpenClaim := { program := "ytofcpfabjfhjoaa", sum := "b1f8be0d56b014a2b713ca05373517bc58da30b8418026ba77e35f281759bd8a", func := "loop.example/transactionorders/laws.FnRunStamps", spec := "fnRunStamps", inPlace := ["(*internal/sync.Mutex).Lock", "internal/race.Disable", "sync/atomic.CompareAndSwapInt32", "internal/race.Enable", "internal/race.Acquire", "(*internal/sync.Mutex).lockSlow", "internal/sync.runtime_canSpin", "internal/sync.runtime_doSpin", "internal/sync.throw", "internal/sync.runtime_nanotime", "internal/sync.runtime_SemacquireMutex", "sync/atomic.AddInt32", "(*internal/sync.Mutex).Unlock", "internal/race.ReleaseMerge", "(*internal/sync.Mutex).unlockSlow", "internal/sync.fatal", "internal/sync.runtime_Semrelease"], unfollowed := true, recurses := true, plainKeys := false, apart := false, narrowed := true }
def FnRunStampsUptoSaid : Prop := fnRunStampsUptoRow.holds Try.pinned (OpenSpec.upto fnRunStampsSpec)

end Rows
end Go.Proofs.Ytofcpfabjfhjoaa
