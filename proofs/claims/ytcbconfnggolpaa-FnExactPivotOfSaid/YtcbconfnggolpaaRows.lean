/-
  No cell of these rows narrows 'for every input' (looked for: loops, veiled, ifaces, maps, wideKeys, modest, calm, conditions, laid).
  DERIVED. THE GIVEN ROWS OF THIS SEAT. 3 by the template 'for every input the law returns true; each argument reads behind the call as it read before'; 0 by the template 'total and deterministic' (their statements: YtcbconfnggolpaaTotals.lean).
  GIVEN WITH THE SEED: the statements are not yours to turn. If you find one false, say at which input.
  Laid BY PROGRAM, IN A SANDBOX (cutbox-rows.mjs): the forced cells as the released guide's own fill.sh prints them over the translation 106267e3d667c84e… (all of the seat's roots in one cut). By AI agents, Wed Nov 11 2026. No macro, syntax, notation, axiom, sorry.
-/
import Derived.Test.YtcbconfnggolpaaChecked
import GoSem.Claim
import GoSem.ClaimJoined
import GoSem.ClaimMapViews
import Derived.JoinedTies
import Derived.KernelRfl
namespace Go.Proofs.Ytcbconfnggolpaa
/- THE CELL 'sum', in the pinned program and in every row, IS THE sha256 OF THE DUMP (.gsa) THAT YtcbconfnggolpaaProg.lean LOADS. Nothing in Lean hashes anything: it is a label: what it is worth is what the hold of that sum in a sandbox is worth. -/
noncomputable def Try.pinned : Pinned := { name := "ytcbconfnggolpaa", sum := "106267e3d667c84edb04a50f4c4aaa3a67814e74e2fb095861e4a29133cfc983", checked := Try.checked }
namespace Rows
def none {H : Type} : Left H := { results := [], args := [] }

/-- 'laws.FnSurvivorsOf': WHATEVER THE INPUT: true; the input reads as it did. -/
def fnSurvivorsOfSpec : ChangeSpec := { name := "fnSurvivorsOf", fn := fun _ => fun
  | [d] => { results := [.lit (.bool true)], args := [d] }
  | _ => none }
def fnSurvivorsOfRow : OpenClaim := { program := "ytcbconfnggolpaa", sum := "106267e3d667c84edb04a50f4c4aaa3a67814e74e2fb095861e4a29133cfc983", func := "loop.example/transactionorders/laws.FnSurvivorsOf", spec := "fnSurvivorsOf", unfollowed := true, recurses := true, apart := false }
def FnSurvivorsOfSaid : Prop := fnSurvivorsOfRow.holds Try.pinned (OpenSpec.ofChange fnSurvivorsOfSpec)

/-- ITS FALSE NEIGHBOUR: 'it returns false'. Refute it at one input. -/
def fnSurvivorsOfWrong : ChangeSpec := { name := "fnSurvivorsOf", fn := fun _ => fun
  | [d] => { results := [.lit (.bool false)], args := [d] }
  | _ => none }
def FnSurvivorsOfWrongFalsely : Prop := fnSurvivorsOfRow.holds Try.pinned (OpenSpec.ofChange fnSurvivorsOfWrong)

/-- 'laws.FnExactRunChecks': WHATEVER THE INPUT: true; the input reads as it did. -/
def fnExactRunChecksSpec : ChangeSpec := { name := "fnExactRunChecks", fn := fun _ => fun
  | [d] => { results := [.lit (.bool true)], args := [d] }
  | _ => none }
def fnExactRunChecksRow : OpenClaim := { program := "ytcbconfnggolpaa", sum := "106267e3d667c84edb04a50f4c4aaa3a67814e74e2fb095861e4a29133cfc983", func := "loop.example/transactionorders/laws.FnExactRunChecks", spec := "fnExactRunChecks", unfollowed := true, recurses := true, apart := false }
def FnExactRunChecksSaid : Prop := fnExactRunChecksRow.holds Try.pinned (OpenSpec.ofChange fnExactRunChecksSpec)

/-- ITS FALSE NEIGHBOUR: 'it returns false'. Refute it at one input. -/
def fnExactRunChecksWrong : ChangeSpec := { name := "fnExactRunChecks", fn := fun _ => fun
  | [d] => { results := [.lit (.bool false)], args := [d] }
  | _ => none }
def FnExactRunChecksWrongFalsely : Prop := fnExactRunChecksRow.holds Try.pinned (OpenSpec.ofChange fnExactRunChecksWrong)

/-- 'laws.FnExactPivotOf': WHATEVER THE INPUT: true; the input reads as it did. -/
def fnExactPivotOfSpec : ChangeSpec := { name := "fnExactPivotOf", fn := fun _ => fun
  | [d] => { results := [.lit (.bool true)], args := [d] }
  | _ => none }
def fnExactPivotOfRow : OpenClaim := { program := "ytcbconfnggolpaa", sum := "106267e3d667c84edb04a50f4c4aaa3a67814e74e2fb095861e4a29133cfc983", func := "loop.example/transactionorders/laws.FnExactPivotOf", spec := "fnExactPivotOf", unfollowed := true, recurses := true, apart := false }
def FnExactPivotOfSaid : Prop := fnExactPivotOfRow.holds Try.pinned (OpenSpec.ofChange fnExactPivotOfSpec)

/-- ITS FALSE NEIGHBOUR: 'it returns false'. Refute it at one input. -/
def fnExactPivotOfWrong : ChangeSpec := { name := "fnExactPivotOf", fn := fun _ => fun
  | [d] => { results := [.lit (.bool false)], args := [d] }
  | _ => none }
def FnExactPivotOfWrongFalsely : Prop := fnExactPivotOfRow.holds Try.pinned (OpenSpec.ofChange fnExactPivotOfWrong)

/- THE SECOND FORM. 'bulk': how many values and letters a reading holds, each counted each time it is reached (what is shared counts as often as it is met; a slice's spare places count too). A statement '..UptoSaid' is the law's where the arguments, and the package variables that the reading takes, are together of bulk at most 1048576: NARROWER than '..Said'. Prove '..Said' where nothing that the law and all that it calls make is longer than what came in: it says more and counts as full. Else prove '..UptoSaid'. A law counts once. -/
mutual
def uptoBulk {H : Type} : DataW H → Nat
  | .lit (.string bytes) => bytes.length + 1
  | .lit _ => 1
  | .nil => 1
  | .ptr d => uptoBulk d + 1
  | .slice elems spare => uptoBulkAll elems + uptoBulkAll spare + 1
  | .agg parts => uptoBulkAll parts + 1
  | .iface _ d => uptoBulk d + 1
  | .map entries => uptoBulkEntries entries + 1
  | .held _ => 1
def uptoBulkAll {H : Type} : List (DataW H) → Nat
  | [] => 0
  | d :: r => uptoBulk d + uptoBulkAll r
def uptoBulkEntries {H : Type} : List (Lit × DataW H) → Nat
  | [] => 0
  | x :: r => uptoBulkEntry x + uptoBulkEntries r
def uptoBulkEntry {H : Type} : Lit × DataW H → Nat
  | (.string bytes, d) => bytes.length + uptoBulk d + 1
  | (_, d) => uptoBulk d + 1
 end
def uptoSmall : (H : Type) → List (DataW H) → Bool := fun _ ds => decide (uptoBulkAll ds ≤ 1048576)
def OpenSpec.upto (s : _root_.Go.ChangeSpec) : _root_.Go.OpenSpec := { _root_.Go.OpenSpec.ofChange s with cond := some uptoSmall }

/-- 'laws.FnSurvivorsOf', WHERE WHAT IT READS IS OF BULK AT MOST 1048576: true; the input reads as it did. -/
def fnSurvivorsOfUptoRow : OpenClaim := { program := "ytcbconfnggolpaa", sum := "106267e3d667c84edb04a50f4c4aaa3a67814e74e2fb095861e4a29133cfc983", func := "loop.example/transactionorders/laws.FnSurvivorsOf", spec := "fnSurvivorsOf", unfollowed := true, recurses := true, apart := false, narrowed := true }
def FnSurvivorsOfUptoSaid : Prop := fnSurvivorsOfUptoRow.holds Try.pinned (OpenSpec.upto fnSurvivorsOfSpec)

/-- 'laws.FnExactRunChecks', WHERE WHAT IT READS IS OF BULK AT MOST 1048576: true; the input reads as it did. -/
def fnExactRunChecksUptoRow : OpenClaim := { program := "ytcbconfnggolpaa", sum := "106267e3d667c84edb04a50f4c4aaa3a67814e74e2fb095861e4a29133cfc983", func := "loop.example/transactionorders/laws.FnExactRunChecks", spec := "fnExactRunChecks", unfollowed := true, recurses := true, apart := false, narrowed := true }
def FnExactRunChecksUptoSaid : Prop := fnExactRunChecksUptoRow.holds Try.pinned (OpenSpec.upto fnExactRunChecksSpec)

/-- 'laws.FnExactPivotOf', WHERE WHAT IT READS IS OF BULK AT MOST 1048576: true; the input reads as it did. -/
def fnExactPivotOfUptoRow : OpenClaim := { program := "ytcbconfnggolpaa", sum := "106267e3d667c84edb04a50f4c4aaa3a67814e74e2fb095861e4a29133cfc983", func := "loop.example/transactionorders/laws.FnExactPivotOf", spec := "fnExactPivotOf", unfollowed := true, recurses := true, apart := false, narrowed := true }
def FnExactPivotOfUptoSaid : Prop := fnExactPivotOfUptoRow.holds Try.pinned (OpenSpec.upto fnExactPivotOfSpec)

end Rows
end Go.Proofs.Ytcbconfnggolpaa
