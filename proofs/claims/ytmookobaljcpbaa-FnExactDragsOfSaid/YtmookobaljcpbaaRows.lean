/-
  No cell of these rows narrows 'for every input' (looked for: loops, veiled, ifaces, maps, wideKeys, modest, calm, conditions, laid).
  DERIVED. THE GIVEN ROWS OF THIS SEAT. 6 by the template 'for every input the law returns true; each argument reads behind the call as it read before'; 0 by the template 'total and deterministic' (their statements: YtmookobaljcpbaaTotals.lean).
  GIVEN WITH THE SEED: the statements are not yours to turn. If you find one false, say at which input.
  Laid BY PROGRAM, IN A SANDBOX (cutbox-rows.mjs): the forced cells as the released guide's own fill.sh prints them over the translation b09aa47133555553… (all of the seat's roots in one cut). By AI agents, Wed Nov 11 2026. No macro, syntax, notation, axiom, sorry.
-/
import Derived.Test.YtmookobaljcpbaaChecked
import GoSem.Claim
import GoSem.ClaimJoined
import GoSem.ClaimMapViews
import Derived.JoinedTies
import Derived.KernelRfl
namespace Go.Proofs.Ytmookobaljcpbaa
/- THE CELL 'sum', in the pinned program and in every row, IS THE sha256 OF THE DUMP (.gsa) THAT YtmookobaljcpbaaProg.lean LOADS. Nothing in Lean hashes anything: it is a label: what it is worth is what the hold of that sum in a sandbox is worth. -/
noncomputable def Try.pinned : Pinned := { name := "ytmookobaljcpbaa", sum := "b09aa47133555553133a0492b56af693e79e7847f85e20b4748fe28fbfadf9a9", checked := Try.checked }
namespace Rows
def none {H : Type} : Left H := { results := [], args := [] }

/-- 'laws.FnIsSerial': WHATEVER THE INPUT: true; the input reads as it did. -/
def fnIsSerialSpec : ChangeSpec := { name := "fnIsSerial", fn := fun _ => fun
  | [d] => { results := [.lit (.bool true)], args := [d] }
  | _ => none }
def fnIsSerialRow : OpenClaim := { program := "ytmookobaljcpbaa", sum := "b09aa47133555553133a0492b56af693e79e7847f85e20b4748fe28fbfadf9a9", func := "loop.example/transactionorders/laws.FnIsSerial", spec := "fnIsSerial", unfollowed := true, recurses := true, apart := false }
def FnIsSerialSaid : Prop := fnIsSerialRow.holds Try.pinned (OpenSpec.ofChange fnIsSerialSpec)

/-- ITS FALSE NEIGHBOUR: 'it returns false'. Refute it at one input. -/
def fnIsSerialWrong : ChangeSpec := { name := "fnIsSerial", fn := fun _ => fun
  | [d] => { results := [.lit (.bool false)], args := [d] }
  | _ => none }
def FnIsSerialWrongFalsely : Prop := fnIsSerialRow.holds Try.pinned (OpenSpec.ofChange fnIsSerialWrong)

/-- 'laws.FnStampsOf': WHATEVER THE INPUT: true; the input reads as it did. -/
def fnStampsOfSpec : ChangeSpec := { name := "fnStampsOf", fn := fun _ => fun
  | [d] => { results := [.lit (.bool true)], args := [d] }
  | _ => none }
def fnStampsOfRow : OpenClaim := { program := "ytmookobaljcpbaa", sum := "b09aa47133555553133a0492b56af693e79e7847f85e20b4748fe28fbfadf9a9", func := "loop.example/transactionorders/laws.FnStampsOf", spec := "fnStampsOf", unfollowed := true, recurses := true, apart := false }
def FnStampsOfSaid : Prop := fnStampsOfRow.holds Try.pinned (OpenSpec.ofChange fnStampsOfSpec)

/-- ITS FALSE NEIGHBOUR: 'it returns false'. Refute it at one input. -/
def fnStampsOfWrong : ChangeSpec := { name := "fnStampsOf", fn := fun _ => fun
  | [d] => { results := [.lit (.bool false)], args := [d] }
  | _ => none }
def FnStampsOfWrongFalsely : Prop := fnStampsOfRow.holds Try.pinned (OpenSpec.ofChange fnStampsOfWrong)

/-- 'laws.FnExactSerialBy': WHATEVER THE INPUT: true; the input reads as it did. -/
def fnExactSerialBySpec : ChangeSpec := { name := "fnExactSerialBy", fn := fun _ => fun
  | [d1, d2] => { results := [.lit (.bool true)], args := [d1, d2] }
  | _ => none }
def fnExactSerialByRow : OpenClaim := { program := "ytmookobaljcpbaa", sum := "b09aa47133555553133a0492b56af693e79e7847f85e20b4748fe28fbfadf9a9", func := "loop.example/transactionorders/laws.FnExactSerialBy", spec := "fnExactSerialBy", unfollowed := true, recurses := true, apart := false }
def FnExactSerialBySaid : Prop := fnExactSerialByRow.holds Try.pinned (OpenSpec.ofChange fnExactSerialBySpec)

/-- ITS FALSE NEIGHBOUR: 'it returns false'. Refute it at one input. -/
def fnExactSerialByWrong : ChangeSpec := { name := "fnExactSerialBy", fn := fun _ => fun
  | [d1, d2] => { results := [.lit (.bool false)], args := [d1, d2] }
  | _ => none }
def FnExactSerialByWrongFalsely : Prop := fnExactSerialByRow.holds Try.pinned (OpenSpec.ofChange fnExactSerialByWrong)

/-- 'laws.FnSerialBy': WHATEVER THE INPUT: true; the input reads as it did. -/
def fnSerialBySpec : ChangeSpec := { name := "fnSerialBy", fn := fun _ => fun
  | [d] => { results := [.lit (.bool true)], args := [d] }
  | _ => none }
def fnSerialByRow : OpenClaim := { program := "ytmookobaljcpbaa", sum := "b09aa47133555553133a0492b56af693e79e7847f85e20b4748fe28fbfadf9a9", func := "loop.example/transactionorders/laws.FnSerialBy", spec := "fnSerialBy", unfollowed := true, recurses := true, apart := false }
def FnSerialBySaid : Prop := fnSerialByRow.holds Try.pinned (OpenSpec.ofChange fnSerialBySpec)

/-- ITS FALSE NEIGHBOUR: 'it returns false'. Refute it at one input. -/
def fnSerialByWrong : ChangeSpec := { name := "fnSerialBy", fn := fun _ => fun
  | [d] => { results := [.lit (.bool false)], args := [d] }
  | _ => none }
def FnSerialByWrongFalsely : Prop := fnSerialByRow.holds Try.pinned (OpenSpec.ofChange fnSerialByWrong)

/-- 'laws.FnExactDragsOf': WHATEVER THE INPUT: true; the input reads as it did. -/
def fnExactDragsOfSpec : ChangeSpec := { name := "fnExactDragsOf", fn := fun _ => fun
  | [d1, d2] => { results := [.lit (.bool true)], args := [d1, d2] }
  | _ => none }
def fnExactDragsOfRow : OpenClaim := { program := "ytmookobaljcpbaa", sum := "b09aa47133555553133a0492b56af693e79e7847f85e20b4748fe28fbfadf9a9", func := "loop.example/transactionorders/laws.FnExactDragsOf", spec := "fnExactDragsOf", unfollowed := true, recurses := true, apart := false }
def FnExactDragsOfSaid : Prop := fnExactDragsOfRow.holds Try.pinned (OpenSpec.ofChange fnExactDragsOfSpec)

/-- ITS FALSE NEIGHBOUR: 'it returns false'. Refute it at one input. -/
def fnExactDragsOfWrong : ChangeSpec := { name := "fnExactDragsOf", fn := fun _ => fun
  | [d1, d2] => { results := [.lit (.bool false)], args := [d1, d2] }
  | _ => none }
def FnExactDragsOfWrongFalsely : Prop := fnExactDragsOfRow.holds Try.pinned (OpenSpec.ofChange fnExactDragsOfWrong)

/-- 'laws.FnDragsOf': WHATEVER THE INPUT: true; the input reads as it did. -/
def fnDragsOfSpec : ChangeSpec := { name := "fnDragsOf", fn := fun _ => fun
  | [d] => { results := [.lit (.bool true)], args := [d] }
  | _ => none }
def fnDragsOfRow : OpenClaim := { program := "ytmookobaljcpbaa", sum := "b09aa47133555553133a0492b56af693e79e7847f85e20b4748fe28fbfadf9a9", func := "loop.example/transactionorders/laws.FnDragsOf", spec := "fnDragsOf", unfollowed := true, recurses := true, apart := false }
def FnDragsOfSaid : Prop := fnDragsOfRow.holds Try.pinned (OpenSpec.ofChange fnDragsOfSpec)

/-- ITS FALSE NEIGHBOUR: 'it returns false'. Refute it at one input. -/
def fnDragsOfWrong : ChangeSpec := { name := "fnDragsOf", fn := fun _ => fun
  | [d] => { results := [.lit (.bool false)], args := [d] }
  | _ => none }
def FnDragsOfWrongFalsely : Prop := fnDragsOfRow.holds Try.pinned (OpenSpec.ofChange fnDragsOfWrong)

/- THE SECOND FORM. 'bulk': how many values and letters a reading holds, each counted each time it is reached (what is shared counts as often as it is met; a slice's spare places count too). A statement '..UptoSaid' is the law's where the arguments, and the package variables that the reading takes, are together of bulk at most 1048576: NARROWER than '..Said'. Prove '..Said' where nothing that the law and all that it calls make is longer than what came in: it says more and counts as full. Else prove '..UptoSaid'. A law counts once. -/
mutual
def uptoBulk {H : Type} : DataW H → Nat
  | .lit (.string bytes) => bytes.length + 1
  | .lit _ => 1
  | .nil => 1
  | .ptr d => uptoBulk d + 1
  | .slice elems spare => uptoBulkAll elems + uptoBulkAll spare + 1
  | .agg parts => uptoBulkAll parts + 1
  | .iface _ d => uptoBulk d + 1
  | .map entries => uptoBulkEntries entries + 1
  | .held _ => 1
def uptoBulkAll {H : Type} : List (DataW H) → Nat
  | [] => 0
  | d :: r => uptoBulk d + uptoBulkAll r
def uptoBulkEntries {H : Type} : List (Lit × DataW H) → Nat
  | [] => 0
  | x :: r => uptoBulkEntry x + uptoBulkEntries r
def uptoBulkEntry {H : Type} : Lit × DataW H → Nat
  | (.string bytes, d) => bytes.length + uptoBulk d + 1
  | (_, d) => uptoBulk d + 1
 end
def uptoSmall : (H : Type) → List (DataW H) → Bool := fun _ ds => decide (uptoBulkAll ds ≤ 1048576)
def OpenSpec.upto (s : _root_.Go.ChangeSpec) : _root_.Go.OpenSpec := { _root_.Go.OpenSpec.ofChange s with cond := some uptoSmall }

/-- 'laws.FnIsSerial', WHERE WHAT IT READS IS OF BULK AT MOST 1048576: true; the input reads as it did. -/
def fnIsSerialUptoRow : OpenClaim := { program := "ytmookobaljcpbaa", sum := "b09aa47133555553133a0492b56af693e79e7847f85e20b4748fe28fbfadf9a9", func := "loop.example/transactionorders/laws.FnIsSerial", spec := "fnIsSerial", unfollowed := true, recurses := true, apart := false, narrowed := true }
def FnIsSerialUptoSaid : Prop := fnIsSerialUptoRow.holds Try.pinned (OpenSpec.upto fnIsSerialSpec)

/-- 'laws.FnStampsOf', WHERE WHAT IT READS IS OF BULK AT MOST 1048576: true; the input reads as it did. -/
def fnStampsOfUptoRow : OpenClaim := { program := "ytmookobaljcpbaa", sum := "b09aa47133555553133a0492b56af693e79e7847f85e20b4748fe28fbfadf9a9", func := "loop.example/transactionorders/laws.FnStampsOf", spec := "fnStampsOf", unfollowed := true, recurses := true, apart := false, narrowed := true }
def FnStampsOfUptoSaid : Prop := fnStampsOfUptoRow.holds Try.pinned (OpenSpec.upto fnStampsOfSpec)

/-- 'laws.FnExactSerialBy', WHERE WHAT IT READS IS OF BULK AT MOST 1048576: true; the input reads as it did. -/
def fnExactSerialByUptoRow : OpenClaim := { program := "ytmookobaljcpbaa", sum := "b09aa47133555553133a0492b56af693e79e7847f85e20b4748fe28fbfadf9a9", func := "loop.example/transactionorders/laws.FnExactSerialBy", spec := "fnExactSerialBy", unfollowed := true, recurses := true, apart := false, narrowed := true }
def FnExactSerialByUptoSaid : Prop := fnExactSerialByUptoRow.holds Try.pinned (OpenSpec.upto fnExactSerialBySpec)

/-- 'laws.FnSerialBy', WHERE WHAT IT READS IS OF BULK AT MOST 1048576: true; the input reads as it did. -/
def fnSerialByUptoRow : OpenClaim := { program := "ytmookobaljcpbaa", sum := "b09aa47133555553133a0492b56af693e79e7847f85e20b4748fe28fbfadf9a9", func := "loop.example/transactionorders/laws.FnSerialBy", spec := "fnSerialBy", unfollowed := true, recurses := true, apart := false, narrowed := true }
def FnSerialByUptoSaid : Prop := fnSerialByUptoRow.holds Try.pinned (OpenSpec.upto fnSerialBySpec)

/-- 'laws.FnExactDragsOf', WHERE WHAT IT READS IS OF BULK AT MOST 1048576: true; the input reads as it did. -/
def fnExactDragsOfUptoRow : OpenClaim := { program := "ytmookobaljcpbaa", sum := "b09aa47133555553133a0492b56af693e79e7847f85e20b4748fe28fbfadf9a9", func := "loop.example/transactionorders/laws.FnExactDragsOf", spec := "fnExactDragsOf", unfollowed := true, recurses := true, apart := false, narrowed := true }
def FnExactDragsOfUptoSaid : Prop := fnExactDragsOfUptoRow.holds Try.pinned (OpenSpec.upto fnExactDragsOfSpec)

/-- 'laws.FnDragsOf', WHERE WHAT IT READS IS OF BULK AT MOST 1048576: true; the input reads as it did. -/
def fnDragsOfUptoRow : OpenClaim := { program := "ytmookobaljcpbaa", sum := "b09aa47133555553133a0492b56af693e79e7847f85e20b4748fe28fbfadf9a9", func := "loop.example/transactionorders/laws.FnDragsOf", spec := "fnDragsOf", unfollowed := true, recurses := true, apart := false, narrowed := true }
def FnDragsOfUptoSaid : Prop := fnDragsOfUptoRow.holds Try.pinned (OpenSpec.upto fnDragsOfSpec)

end Rows
end Go.Proofs.Ytmookobaljcpbaa
