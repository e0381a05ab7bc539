/-
  No cell of these rows narrows 'for every input' (looked for: loops, veiled, ifaces, maps, wideKeys, modest, calm, conditions, laid).
  DERIVED. THE GIVEN ROWS OF THIS SEAT. 5 by the template 'for every input the law returns true; each argument reads behind the call as it read before'; 0 by the template 'total and deterministic' (their statements: YtncebpmckbcabaaTotals.lean).
  GIVEN WITH THE SEED: the statements are not yours to turn. If you find one false, say at which input.
  Laid BY PROGRAM, IN A SANDBOX (cutbox-rows.mjs): the forced cells as the released guide's own fill.sh prints them over the translation 85c3875ad11d59d5… (all of the seat's roots in one cut). By AI agents, Wed Nov 11 2026. No macro, syntax, notation, axiom, sorry.
-/
import Derived.Test.YtncebpmckbcabaaChecked
import GoSem.Claim
import GoSem.ClaimJoined
import GoSem.ClaimMapViews
import Derived.JoinedTies
import Derived.KernelRfl
namespace Go.Proofs.Ytncebpmckbcabaa
/- THE CELL 'sum', in the pinned program and in every row, IS THE sha256 OF THE DUMP (.gsa) THAT YtncebpmckbcabaaProg.lean LOADS. Nothing in Lean hashes anything: it is a label: what it is worth is what the hold of that sum in a sandbox is worth. -/
noncomputable def Try.pinned : Pinned := { name := "ytncebpmckbcabaa", sum := "85c3875ad11d59d57ba09aa05b355c5e1e262d48ce484eebdaa6f9c4adfd7253", checked := Try.checked }
namespace Rows
def none {H : Type} : Left H := { results := [], args := [] }

/-- 'laws.FnExactRunLocks': WHATEVER THE INPUT: true; the input reads as it did. -/
def fnExactRunLocksSpec : ChangeSpec := { name := "fnExactRunLocks", fn := fun _ => fun
  | [d1, d2] => { results := [.lit (.bool true)], args := [d1, d2] }
  | _ => none }
def fnExactRunLocksRow : OpenClaim := { program := "ytncebpmckbcabaa", sum := "85c3875ad11d59d57ba09aa05b355c5e1e262d48ce484eebdaa6f9c4adfd7253", func := "loop.example/transactionorders/laws.FnExactRunLocks", spec := "fnExactRunLocks", unfollowed := true, recurses := true, plainKeys := false, apart := false }
def FnExactRunLocksSaid : Prop := fnExactRunLocksRow.holds Try.pinned (OpenSpec.ofChange fnExactRunLocksSpec)

/-- ITS FALSE NEIGHBOUR: 'it returns false'. Refute it at one input. -/
def fnExactRunLocksWrong : ChangeSpec := { name := "fnExactRunLocks", fn := fun _ => fun
  | [d1, d2] => { results := [.lit (.bool false)], args := [d1, d2] }
  | _ => none }
def FnExactRunLocksWrongFalsely : Prop := fnExactRunLocksRow.holds Try.pinned (OpenSpec.ofChange fnExactRunLocksWrong)

/-- 'laws.FnWaitsOf': WHATEVER THE INPUT: true; the input reads as it did. -/
def fnWaitsOfSpec : ChangeSpec := { name := "fnWaitsOf", fn := fun _ => fun
  | [d] => { results := [.lit (.bool true)], args := [d] }
  | _ => none }
def fnWaitsOfRow : OpenClaim := { program := "ytncebpmckbcabaa", sum := "85c3875ad11d59d57ba09aa05b355c5e1e262d48ce484eebdaa6f9c4adfd7253", func := "loop.example/transactionorders/laws.FnWaitsOf", spec := "fnWaitsOf", unfollowed := true, recurses := true, plainKeys := false, apart := false }
def FnWaitsOfSaid : Prop := fnWaitsOfRow.holds Try.pinned (OpenSpec.ofChange fnWaitsOfSpec)

/-- ITS FALSE NEIGHBOUR: 'it returns false'. Refute it at one input. -/
def fnWaitsOfWrong : ChangeSpec := { name := "fnWaitsOf", fn := fun _ => fun
  | [d] => { results := [.lit (.bool false)], args := [d] }
  | _ => none }
def FnWaitsOfWrongFalsely : Prop := fnWaitsOfRow.holds Try.pinned (OpenSpec.ofChange fnWaitsOfWrong)

/-- 'laws.FnRunLocks': WHATEVER THE INPUT: true; the input reads as it did. -/
def fnRunLocksSpec : ChangeSpec := { name := "fnRunLocks", fn := fun _ => fun
  | [d] => { results := [.lit (.bool true)], args := [d] }
  | _ => none }
def fnRunLocksRow : OpenClaim := { program := "ytncebpmckbcabaa", sum := "85c3875ad11d59d57ba09aa05b355c5e1e262d48ce484eebdaa6f9c4adfd7253", func := "loop.example/transactionorders/laws.FnRunLocks", spec := "fnRunLocks", unfollowed := true, recurses := true, plainKeys := false, apart := false }
def FnRunLocksSaid : Prop := fnRunLocksRow.holds Try.pinned (OpenSpec.ofChange fnRunLocksSpec)

/-- ITS FALSE NEIGHBOUR: 'it returns false'. Refute it at one input. -/
def fnRunLocksWrong : ChangeSpec := { name := "fnRunLocks", fn := fun _ => fun
  | [d] => { results := [.lit (.bool false)], args := [d] }
  | _ => none }
def FnRunLocksWrongFalsely : Prop := fnRunLocksRow.holds Try.pinned (OpenSpec.ofChange fnRunLocksWrong)

/-- 'laws.FnKeeps': WHATEVER THE INPUT: true; the input reads as it did. -/
def fnKeepsSpec : ChangeSpec := { name := "fnKeeps", fn := fun _ => fun
  | [d] => { results := [.lit (.bool true)], args := [d] }
  | _ => none }
def fnKeepsRow : OpenClaim := { program := "ytncebpmckbcabaa", sum := "85c3875ad11d59d57ba09aa05b355c5e1e262d48ce484eebdaa6f9c4adfd7253", func := "loop.example/transactionorders/laws.FnKeeps", spec := "fnKeeps", unfollowed := true, recurses := true, plainKeys := false, apart := false }
def FnKeepsSaid : Prop := fnKeepsRow.holds Try.pinned (OpenSpec.ofChange fnKeepsSpec)

/-- ITS FALSE NEIGHBOUR: 'it returns false'. Refute it at one input. -/
def fnKeepsWrong : ChangeSpec := { name := "fnKeeps", fn := fun _ => fun
  | [d] => { results := [.lit (.bool false)], args := [d] }
  | _ => none }
def FnKeepsWrongFalsely : Prop := fnKeepsRow.holds Try.pinned (OpenSpec.ofChange fnKeepsWrong)

/-- 'laws.FnRunStamps': WHATEVER THE INPUT: true; the input reads as it did. -/
def fnRunStampsSpec : ChangeSpec := { name := "fnRunStamps", fn := fun _ => fun
  | [d] => { results := [.lit (.bool true)], args := [d] }
  | _ => none }
def fnRunStampsRow : OpenClaim := { program := "ytncebpmckbcabaa", sum := "85c3875ad11d59d57ba09aa05b355c5e1e262d48ce484eebdaa6f9c4adfd7253", func := "loop.example/transactionorders/laws.FnRunStamps", spec := "fnRunStamps", inPlace := ["(*internal/sync.Mutex).Lock", "internal/race.Disable", "sync/atomic.CompareAndSwapInt32", "internal/race.Enable", "internal/race.Acquire", "(*internal/sync.Mutex).lockSlow", "internal/sync.runtime_canSpin", "internal/sync.runtime_doSpin", "internal/sync.throw", "internal/sync.runtime_nanotime", "internal/sync.runtime_SemacquireMutex", "sync/atomic.AddInt32", "(*internal/sync.Mutex).Unlock", "internal/race.ReleaseMerge", "(*internal/sync.Mutex).unlockSlow", "internal/sync.fatal", "internal/sync.runtime_Semrelease"], unfollowed := true, recurses := true, plainKeys := false, apart := false }
def FnRunStampsSaid : Prop := fnRunStampsRow.holds Try.pinned (OpenSpec.ofChange fnRunStampsSpec)

/-- ITS FALSE NEIGHBOUR: 'it returns false'. Refute it at one input. -/
def fnRunStampsWrong : ChangeSpec := { name := "fnRunStamps", fn := fun _ => fun
  | [d] => { results := [.lit (.bool false)], args := [d] }
  | _ => none }
def FnRunStampsWrongFalsely : Prop := fnRunStampsRow.holds Try.pinned (OpenSpec.ofChange fnRunStampsWrong)

/- THE SECOND FORM. 'bulk': how many values and letters a reading holds, each counted each time it is reached (what is shared counts as often as it is met; a slice's spare places count too). A statement '..UptoSaid' is the law's where the arguments, and the package variables that the reading takes, are together of bulk at most 1048576: NARROWER than '..Said'. Prove '..Said' where nothing that the law and all that it calls make is longer than what came in: it says more and counts as full. Else prove '..UptoSaid'. A law counts once. -/
mutual
def uptoBulk {H : Type} : DataW H → Nat
  | .lit (.string bytes) => bytes.length + 1
  | .lit _ => 1
  | .nil => 1
  | .ptr d => uptoBulk d + 1
  | .slice elems spare => uptoBulkAll elems + uptoBulkAll spare + 1
  | .agg parts => uptoBulkAll parts + 1
  | .iface _ d => uptoBulk d + 1
  | .map entries => uptoBulkEntries entries + 1
  | .held _ => 1
def uptoBulkAll {H : Type} : List (DataW H) → Nat
  | [] => 0
  | d :: r => uptoBulk d + uptoBulkAll r
def uptoBulkEntries {H : Type} : List (Lit × DataW H) → Nat
  | [] => 0
  | x :: r => uptoBulkEntry x + uptoBulkEntries r
def uptoBulkEntry {H : Type} : Lit × DataW H → Nat
  | (.string bytes, d) => bytes.length + uptoBulk d + 1
  | (_, d) => uptoBulk d + 1
 end
def uptoSmall : (H : Type) → List (DataW H) → Bool := fun _ ds => decide (uptoBulkAll ds ≤ 1048576)
def OpenSpec.upto (s : _root_.Go.ChangeSpec) : _root_.Go.OpenSpec := { _root_.Go.OpenSpec.ofChange s with cond := some uptoSmall }

/-- 'laws.FnExactRunLocks', WHERE WHAT IT READS IS OF BULK AT MOST 1048576: true; the input reads as it did. -/
def fnExactRunLocksUptoRow : OpenClaim := { program := "ytncebpmckbcabaa", sum := "85c3875ad11d59d57ba09aa05b355c5e1e262d48ce484eebdaa6f9c4adfd7253", func := "loop.example/transactionorders/laws.FnExactRunLocks", spec := "fnExactRunLocks", unfollowed := true, recurses := true, plainKeys := false, apart := false, narrowed := true }
def FnExactRunLocksUptoSaid : Prop := fnExactRunLocksUptoRow.holds Try.pinned (OpenSpec.upto fnExactRunLocksSpec)

/-- 'laws.FnWaitsOf', WHERE WHAT IT READS IS OF BULK AT MOST 1048576: true; the input reads as it did. -/
def fnWaitsOfUptoRow : OpenClaim := { program := "ytncebpmckbcabaa", sum := "85c3875ad11d59d57ba09aa05b355c5e1e262d48ce484eebdaa6f9c4adfd7253", func := "loop.example/transactionorders/laws.FnWaitsOf", spec := "fnWaitsOf", unfollowed := true, recurses := true, plainKeys := false, apart := false, narrowed := true }
def FnWaitsOfUptoSaid : Prop := fnWaitsOfUptoRow.holds Try.pinned (OpenSpec.upto fnWaitsOfSpec)

/-- 'laws.FnRunLocks', WHERE WHAT IT READS IS OF BULK AT MOST 1048576: true; the input reads as it did. -/
def fnRunLocksUptoRow : OpenClaim := { program := "ytncebpmckbcabaa", sum := "85c3875ad11d59d57ba09aa05b355c5e1e262d48ce484eebdaa6f9c4adfd7253", func := "loop.example/transactionorders/laws.FnRunLocks", spec := "fnRunLocks", unfollowed := true, recurses := true, plainKeys := false, apart := false, narrowed := true }
def FnRunLocksUptoSaid : Prop := fnRunLocksUptoRow.holds Try.pinned (OpenSpec.upto fnRunLocksSpec)

/-- 'laws.FnKeeps', WHERE WHAT IT READS IS OF BULK AT MOST 1048576: true; the input reads as it did. -/
def fnKeepsUptoRow : OpenClaim := { program := "ytncebpmckbcabaa", sum := "85c3875ad11d59d57ba09aa05b355c5e1e262d48ce484eebdaa6f9c4adfd7253", func := "loop.example/transactionorders/laws.FnKeeps", spec := "fnKeeps", unfollowed := true, recurses := true, plainKeys := false, apart := false, narrowed := true }
def FnKeepsUptoSaid : Prop := fnKeepsUptoRow.holds Try.pinned (OpenSpec.upto fnKeepsSpec)

/-- 'laws.FnRunStamps', WHERE WHAT IT READS IS OF BULK AT MOST 1048576: true; the input reads as it did. -/
def fnRunStampsUptoRow : OpenClaim := { program := "ytncebpmckbcabaa", sum := "85c3875ad11d59d57ba09aa05b355c5e1e262d48ce484eebdaa6f9c4adfd7253", func := "loop.example/transactionorders/laws.FnRunStamps", spec := "fnRunStamps", inPlace := ["(*internal/sync.Mutex).Lock", "internal/race.Disable", "sync/atomic.CompareAndSwapInt32", "internal/race.Enable", "internal/race.Acquire", "(*internal/sync.Mutex).lockSlow", "internal/sync.runtime_canSpin", "internal/sync.runtime_doSpin", "internal/sync.throw", "internal/sync.runtime_nanotime", "internal/sync.runtime_SemacquireMutex", "sync/atomic.AddInt32", "(*internal/sync.Mutex).Unlock", "internal/race.ReleaseMerge", "(*internal/sync.Mutex).unlockSlow", "internal/sync.fatal", "internal/sync.runtime_Semrelease"], unfollowed := true, recurses := true, plainKeys := false, apart := false, narrowed := true }
def FnRunStampsUptoSaid : Prop := fnRunStampsUptoRow.holds Try.pinned (OpenSpec.upto fnRunStampsSpec)

end Rows
end Go.Proofs.Ytncebpmckbcabaa
