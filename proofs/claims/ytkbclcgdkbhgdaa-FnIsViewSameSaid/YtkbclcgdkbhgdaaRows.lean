/-
  No cell of these rows narrows 'for every input' (looked for: loops, veiled, ifaces, maps, wideKeys, modest, calm, conditions, laid).
  DERIVED. THE GIVEN ROWS OF THIS SEAT. 11 by the template 'for every input the law returns true; each argument reads behind the call as it read before'; 0 by the template 'total and deterministic' (their statements: YtkbclcgdkbhgdaaTotals.lean).
  GIVEN WITH THE SEED: the statements are not yours to turn. If you find one false, say at which input.
  Laid BY PROGRAM, IN A SANDBOX (cutbox-rows.mjs): the forced cells as the released guide's own fill.sh prints them over the translation fd020f6570421d26… (all of the seat's roots in one cut). By AI agents, Wed Nov 11 2026. No macro, syntax, notation, axiom, sorry.
-/
import Derived.Test.YtkbclcgdkbhgdaaChecked
import GoSem.Claim
import GoSem.ClaimJoined
import GoSem.ClaimMapViews
import Derived.JoinedTies
import Derived.KernelRfl
namespace Go.Proofs.Ytkbclcgdkbhgdaa
/- THE CELL 'sum', in the pinned program and in every row, IS THE sha256 OF THE DUMP (.gsa) THAT YtkbclcgdkbhgdaaProg.lean LOADS. Nothing in Lean hashes anything: it is a label: what it is worth is what the hold of that sum in a sandbox is worth. -/
noncomputable def Try.pinned : Pinned := { name := "ytkbclcgdkbhgdaa", sum := "fd020f6570421d269cdff26fd76d939af48aa1a210169c2ed601cd40af4d319d", checked := Try.checked }
namespace Rows
def none {H : Type} : Left H := { results := [], args := [] }

/-- 'laws.FnExactIsViewSame': WHATEVER THE INPUT: true; the input reads as it did. -/
def fnExactIsViewSameSpec : ChangeSpec := { name := "fnExactIsViewSame", fn := fun _ => fun
  | [d1, d2] => { results := [.lit (.bool true)], args := [d1, d2] }
  | _ => none }
def fnExactIsViewSameRow : OpenClaim := { program := "ytkbclcgdkbhgdaa", sum := "fd020f6570421d269cdff26fd76d939af48aa1a210169c2ed601cd40af4d319d", func := "loop.example/transactionorders/laws.FnExactIsViewSame", spec := "fnExactIsViewSame", unfollowed := true, recurses := true, plainKeys := false, apart := false }
def FnExactIsViewSameSaid : Prop := fnExactIsViewSameRow.holds Try.pinned (OpenSpec.ofChange fnExactIsViewSameSpec)

/-- ITS FALSE NEIGHBOUR: 'it returns false'. Refute it at one input. -/
def fnExactIsViewSameWrong : ChangeSpec := { name := "fnExactIsViewSame", fn := fun _ => fun
  | [d1, d2] => { results := [.lit (.bool false)], args := [d1, d2] }
  | _ => none }
def FnExactIsViewSameWrongFalsely : Prop := fnExactIsViewSameRow.holds Try.pinned (OpenSpec.ofChange fnExactIsViewSameWrong)

/-- 'laws.FnIsSerializable': WHATEVER THE INPUT: true; the input reads as it did. -/
def fnIsSerializableSpec : ChangeSpec := { name := "fnIsSerializable", fn := fun _ => fun
  | [d] => { results := [.lit (.bool true)], args := [d] }
  | _ => none }
def fnIsSerializableRow : OpenClaim := { program := "ytkbclcgdkbhgdaa", sum := "fd020f6570421d269cdff26fd76d939af48aa1a210169c2ed601cd40af4d319d", func := "loop.example/transactionorders/laws.FnIsSerializable", spec := "fnIsSerializable", unfollowed := true, recurses := true, plainKeys := false, apart := false }
def FnIsSerializableSaid : Prop := fnIsSerializableRow.holds Try.pinned (OpenSpec.ofChange fnIsSerializableSpec)

/-- ITS FALSE NEIGHBOUR: 'it returns false'. Refute it at one input. -/
def fnIsSerializableWrong : ChangeSpec := { name := "fnIsSerializable", fn := fun _ => fun
  | [d] => { results := [.lit (.bool false)], args := [d] }
  | _ => none }
def FnIsSerializableWrongFalsely : Prop := fnIsSerializableRow.holds Try.pinned (OpenSpec.ofChange fnIsSerializableWrong)

/-- 'laws.FnExactOrdersOf': WHATEVER THE INPUT: true; the input reads as it did. -/
def fnExactOrdersOfSpec : ChangeSpec := { name := "fnExactOrdersOf", fn := fun _ => fun
  | [d] => { results := [.lit (.bool true)], args := [d] }
  | _ => none }
def fnExactOrdersOfRow : OpenClaim := { program := "ytkbclcgdkbhgdaa", sum := "fd020f6570421d269cdff26fd76d939af48aa1a210169c2ed601cd40af4d319d", func := "loop.example/transactionorders/laws.FnExactOrdersOf", spec := "fnExactOrdersOf", unfollowed := true, recurses := true, plainKeys := false, apart := false }
def FnExactOrdersOfSaid : Prop := fnExactOrdersOfRow.holds Try.pinned (OpenSpec.ofChange fnExactOrdersOfSpec)

/-- ITS FALSE NEIGHBOUR: 'it returns false'. Refute it at one input. -/
def fnExactOrdersOfWrong : ChangeSpec := { name := "fnExactOrdersOf", fn := fun _ => fun
  | [d] => { results := [.lit (.bool false)], args := [d] }
  | _ => none }
def FnExactOrdersOfWrongFalsely : Prop := fnExactOrdersOfRow.holds Try.pinned (OpenSpec.ofChange fnExactOrdersOfWrong)

/-- 'laws.FnCycleOf': WHATEVER THE INPUT: true; the input reads as it did. -/
def fnCycleOfSpec : ChangeSpec := { name := "fnCycleOf", fn := fun _ => fun
  | [d] => { results := [.lit (.bool true)], args := [d] }
  | _ => none }
def fnCycleOfRow : OpenClaim := { program := "ytkbclcgdkbhgdaa", sum := "fd020f6570421d269cdff26fd76d939af48aa1a210169c2ed601cd40af4d319d", func := "loop.example/transactionorders/laws.FnCycleOf", spec := "fnCycleOf", unfollowed := true, recurses := true, plainKeys := false, apart := false }
def FnCycleOfSaid : Prop := fnCycleOfRow.holds Try.pinned (OpenSpec.ofChange fnCycleOfSpec)

/-- ITS FALSE NEIGHBOUR: 'it returns false'. Refute it at one input. -/
def fnCycleOfWrong : ChangeSpec := { name := "fnCycleOf", fn := fun _ => fun
  | [d] => { results := [.lit (.bool false)], args := [d] }
  | _ => none }
def FnCycleOfWrongFalsely : Prop := fnCycleOfRow.holds Try.pinned (OpenSpec.ofChange fnCycleOfWrong)

/-- 'laws.FnExactTimeOrders': WHATEVER THE INPUT: true; the input reads as it did. -/
def fnExactTimeOrdersSpec : ChangeSpec := { name := "fnExactTimeOrders", fn := fun _ => fun
  | [d] => { results := [.lit (.bool true)], args := [d] }
  | _ => none }
def fnExactTimeOrdersRow : OpenClaim := { program := "ytkbclcgdkbhgdaa", sum := "fd020f6570421d269cdff26fd76d939af48aa1a210169c2ed601cd40af4d319d", func := "loop.example/transactionorders/laws.FnExactTimeOrders", spec := "fnExactTimeOrders", unfollowed := true, recurses := true, plainKeys := false, apart := false }
def FnExactTimeOrdersSaid : Prop := fnExactTimeOrdersRow.holds Try.pinned (OpenSpec.ofChange fnExactTimeOrdersSpec)

/-- ITS FALSE NEIGHBOUR: 'it returns false'. Refute it at one input. -/
def fnExactTimeOrdersWrong : ChangeSpec := { name := "fnExactTimeOrders", fn := fun _ => fun
  | [d] => { results := [.lit (.bool false)], args := [d] }
  | _ => none }
def FnExactTimeOrdersWrongFalsely : Prop := fnExactTimeOrdersRow.holds Try.pinned (OpenSpec.ofChange fnExactTimeOrdersWrong)

/-- 'laws.FnIsSame': WHATEVER THE INPUT: true; the input reads as it did. -/
def fnIsSameSpec : ChangeSpec := { name := "fnIsSame", fn := fun _ => fun
  | [d] => { results := [.lit (.bool true)], args := [d] }
  | _ => none }
def fnIsSameRow : OpenClaim := { program := "ytkbclcgdkbhgdaa", sum := "fd020f6570421d269cdff26fd76d939af48aa1a210169c2ed601cd40af4d319d", func := "loop.example/transactionorders/laws.FnIsSame", spec := "fnIsSame", unfollowed := true, recurses := true, plainKeys := false, apart := false }
def FnIsSameSaid : Prop := fnIsSameRow.holds Try.pinned (OpenSpec.ofChange fnIsSameSpec)

/-- ITS FALSE NEIGHBOUR: 'it returns false'. Refute it at one input. -/
def fnIsSameWrong : ChangeSpec := { name := "fnIsSame", fn := fun _ => fun
  | [d] => { results := [.lit (.bool false)], args := [d] }
  | _ => none }
def FnIsSameWrongFalsely : Prop := fnIsSameRow.holds Try.pinned (OpenSpec.ofChange fnIsSameWrong)

/-- 'laws.FnTimeOrders': WHATEVER THE INPUT: true; the input reads as it did. -/
def fnTimeOrdersSpec : ChangeSpec := { name := "fnTimeOrders", fn := fun _ => fun
  | [d] => { results := [.lit (.bool true)], args := [d] }
  | _ => none }
def fnTimeOrdersRow : OpenClaim := { program := "ytkbclcgdkbhgdaa", sum := "fd020f6570421d269cdff26fd76d939af48aa1a210169c2ed601cd40af4d319d", func := "loop.example/transactionorders/laws.FnTimeOrders", spec := "fnTimeOrders", unfollowed := true, recurses := true, plainKeys := false, apart := false }
def FnTimeOrdersSaid : Prop := fnTimeOrdersRow.holds Try.pinned (OpenSpec.ofChange fnTimeOrdersSpec)

/-- ITS FALSE NEIGHBOUR: 'it returns false'. Refute it at one input. -/
def fnTimeOrdersWrong : ChangeSpec := { name := "fnTimeOrders", fn := fun _ => fun
  | [d] => { results := [.lit (.bool false)], args := [d] }
  | _ => none }
def FnTimeOrdersWrongFalsely : Prop := fnTimeOrdersRow.holds Try.pinned (OpenSpec.ofChange fnTimeOrdersWrong)

/-- 'laws.FnHasBlind': WHATEVER THE INPUT: true; the input reads as it did. -/
def fnHasBlindSpec : ChangeSpec := { name := "fnHasBlind", fn := fun _ => fun
  | [d] => { results := [.lit (.bool true)], args := [d] }
  | _ => none }
def fnHasBlindRow : OpenClaim := { program := "ytkbclcgdkbhgdaa", sum := "fd020f6570421d269cdff26fd76d939af48aa1a210169c2ed601cd40af4d319d", func := "loop.example/transactionorders/laws.FnHasBlind", spec := "fnHasBlind", unfollowed := true, recurses := true, plainKeys := false, apart := false }
def FnHasBlindSaid : Prop := fnHasBlindRow.holds Try.pinned (OpenSpec.ofChange fnHasBlindSpec)

/-- ITS FALSE NEIGHBOUR: 'it returns false'. Refute it at one input. -/
def fnHasBlindWrong : ChangeSpec := { name := "fnHasBlind", fn := fun _ => fun
  | [d] => { results := [.lit (.bool false)], args := [d] }
  | _ => none }
def FnHasBlindWrongFalsely : Prop := fnHasBlindRow.holds Try.pinned (OpenSpec.ofChange fnHasBlindWrong)

/-- 'laws.FnIsViewSame': WHATEVER THE INPUT: true; the input reads as it did. -/
def fnIsViewSameSpec : ChangeSpec := { name := "fnIsViewSame", fn := fun _ => fun
  | [d] => { results := [.lit (.bool true)], args := [d] }
  | _ => none }
def fnIsViewSameRow : OpenClaim := { program := "ytkbclcgdkbhgdaa", sum := "fd020f6570421d269cdff26fd76d939af48aa1a210169c2ed601cd40af4d319d", func := "loop.example/transactionorders/laws.FnIsViewSame", spec := "fnIsViewSame", unfollowed := true, recurses := true, plainKeys := false, apart := false }
def FnIsViewSameSaid : Prop := fnIsViewSameRow.holds Try.pinned (OpenSpec.ofChange fnIsViewSameSpec)

/-- ITS FALSE NEIGHBOUR: 'it returns false'. Refute it at one input. -/
def fnIsViewSameWrong : ChangeSpec := { name := "fnIsViewSame", fn := fun _ => fun
  | [d] => { results := [.lit (.bool false)], args := [d] }
  | _ => none }
def FnIsViewSameWrongFalsely : Prop := fnIsViewSameRow.holds Try.pinned (OpenSpec.ofChange fnIsViewSameWrong)

/-- 'laws.FnExactViewOrders': WHATEVER THE INPUT: true; the input reads as it did. -/
def fnExactViewOrdersSpec : ChangeSpec := { name := "fnExactViewOrders", fn := fun _ => fun
  | [d] => { results := [.lit (.bool true)], args := [d] }
  | _ => none }
def fnExactViewOrdersRow : OpenClaim := { program := "ytkbclcgdkbhgdaa", sum := "fd020f6570421d269cdff26fd76d939af48aa1a210169c2ed601cd40af4d319d", func := "loop.example/transactionorders/laws.FnExactViewOrders", spec := "fnExactViewOrders", unfollowed := true, recurses := true, plainKeys := false, apart := false }
def FnExactViewOrdersSaid : Prop := fnExactViewOrdersRow.holds Try.pinned (OpenSpec.ofChange fnExactViewOrdersSpec)

/-- ITS FALSE NEIGHBOUR: 'it returns false'. Refute it at one input. -/
def fnExactViewOrdersWrong : ChangeSpec := { name := "fnExactViewOrders", fn := fun _ => fun
  | [d] => { results := [.lit (.bool false)], args := [d] }
  | _ => none }
def FnExactViewOrdersWrongFalsely : Prop := fnExactViewOrdersRow.holds Try.pinned (OpenSpec.ofChange fnExactViewOrdersWrong)

/-- 'laws.FnOrdersOf': WHATEVER THE INPUT: true; the input reads as it did. -/
def fnOrdersOfSpec : ChangeSpec := { name := "fnOrdersOf", fn := fun _ => fun
  | [d] => { results := [.lit (.bool true)], args := [d] }
  | _ => none }
def fnOrdersOfRow : OpenClaim := { program := "ytkbclcgdkbhgdaa", sum := "fd020f6570421d269cdff26fd76d939af48aa1a210169c2ed601cd40af4d319d", func := "loop.example/transactionorders/laws.FnOrdersOf", spec := "fnOrdersOf", unfollowed := true, recurses := true, plainKeys := false, apart := false }
def FnOrdersOfSaid : Prop := fnOrdersOfRow.holds Try.pinned (OpenSpec.ofChange fnOrdersOfSpec)

/-- ITS FALSE NEIGHBOUR: 'it returns false'. Refute it at one input. -/
def fnOrdersOfWrong : ChangeSpec := { name := "fnOrdersOf", fn := fun _ => fun
  | [d] => { results := [.lit (.bool false)], args := [d] }
  | _ => none }
def FnOrdersOfWrongFalsely : Prop := fnOrdersOfRow.holds Try.pinned (OpenSpec.ofChange fnOrdersOfWrong)

/- THE SECOND FORM. 'bulk': how many values and letters a reading holds, each counted each time it is reached (what is shared counts as often as it is met; a slice's spare places count too). A statement '..UptoSaid' is the law's where the arguments, and the package variables that the reading takes, are together of bulk at most 1048576: NARROWER than '..Said'. Prove '..Said' where nothing that the law and all that it calls make is longer than what came in: it says more and counts as full. Else prove '..UptoSaid'. A law counts once. -/
mutual
def uptoBulk {H : Type} : DataW H → Nat
  | .lit (.string bytes) => bytes.length + 1
  | .lit _ => 1
  | .nil => 1
  | .ptr d => uptoBulk d + 1
  | .slice elems spare => uptoBulkAll elems + uptoBulkAll spare + 1
  | .agg parts => uptoBulkAll parts + 1
  | .iface _ d => uptoBulk d + 1
  | .map entries => uptoBulkEntries entries + 1
  | .held _ => 1
def uptoBulkAll {H : Type} : List (DataW H) → Nat
  | [] => 0
  | d :: r => uptoBulk d + uptoBulkAll r
def uptoBulkEntries {H : Type} : List (Lit × DataW H) → Nat
  | [] => 0
  | x :: r => uptoBulkEntry x + uptoBulkEntries r
def uptoBulkEntry {H : Type} : Lit × DataW H → Nat
  | (.string bytes, d) => bytes.length + uptoBulk d + 1
  | (_, d) => uptoBulk d + 1
 end
def uptoSmall : (H : Type) → List (DataW H) → Bool := fun _ ds => decide (uptoBulkAll ds ≤ 1048576)
def OpenSpec.upto (s : _root_.Go.ChangeSpec) : _root_.Go.OpenSpec := { _root_.Go.OpenSpec.ofChange s with cond := some uptoSmall }

/-- 'laws.FnExactIsViewSame', WHERE WHAT IT READS IS OF BULK AT MOST 1048576: true; the input reads as it did. -/
def fnExactIsViewSameUptoRow : OpenClaim := { program := "ytkbclcgdkbhgdaa", sum := "fd020f6570421d269cdff26fd76d939af48aa1a210169c2ed601cd40af4d319d", func := "loop.example/transactionorders/laws.FnExactIsViewSame", spec := "fnExactIsViewSame", unfollowed := true, recurses := true, plainKeys := false, apart := false, narrowed := true }
def FnExactIsViewSameUptoSaid : Prop := fnExactIsViewSameUptoRow.holds Try.pinned (OpenSpec.upto fnExactIsViewSameSpec)

/-- 'laws.FnIsSerializable', WHERE WHAT IT READS IS OF BULK AT MOST 1048576: true; the input reads as it did. -/
def fnIsSerializableUptoRow : OpenClaim := { program := "ytkbclcgdkbhgdaa", sum := "fd020f6570421d269cdff26fd76d939af48aa1a210169c2ed601cd40af4d319d", func := "loop.example/transactionorders/laws.FnIsSerializable", spec := "fnIsSerializable", unfollowed := true, recurses := true, plainKeys := false, apart := false, narrowed := true }
def FnIsSerializableUptoSaid : Prop := fnIsSerializableUptoRow.holds Try.pinned (OpenSpec.upto fnIsSerializableSpec)

/-- 'laws.FnExactOrdersOf', WHERE WHAT IT READS IS OF BULK AT MOST 1048576: true; the input reads as it did. -/
def fnExactOrdersOfUptoRow : OpenClaim := { program := "ytkbclcgdkbhgdaa", sum := "fd020f6570421d269cdff26fd76d939af48aa1a210169c2ed601cd40af4d319d", func := "loop.example/transactionorders/laws.FnExactOrdersOf", spec := "fnExactOrdersOf", unfollowed := true, recurses := true, plainKeys := false, apart := false, narrowed := true }
def FnExactOrdersOfUptoSaid : Prop := fnExactOrdersOfUptoRow.holds Try.pinned (OpenSpec.upto fnExactOrdersOfSpec)

/-- 'laws.FnCycleOf', WHERE WHAT IT READS IS OF BULK AT MOST 1048576: true; the input reads as it did. -/
def fnCycleOfUptoRow : OpenClaim := { program := "ytkbclcgdkbhgdaa", sum := "fd020f6570421d269cdff26fd76d939af48aa1a210169c2ed601cd40af4d319d", func := "loop.example/transactionorders/laws.FnCycleOf", spec := "fnCycleOf", unfollowed := true, recurses := true, plainKeys := false, apart := false, narrowed := true }
def FnCycleOfUptoSaid : Prop := fnCycleOfUptoRow.holds Try.pinned (OpenSpec.upto fnCycleOfSpec)

/-- 'laws.FnExactTimeOrders', WHERE WHAT IT READS IS OF BULK AT MOST 1048576: true; the input reads as it did. -/
def fnExactTimeOrdersUptoRow : OpenClaim := { program := "ytkbclcgdkbhgdaa", sum := "fd020f6570421d269cdff26fd76d939af48aa1a210169c2ed601cd40af4d319d", func := "loop.example/transactionorders/laws.FnExactTimeOrders", spec := "fnExactTimeOrders", unfollowed := true, recurses := true, plainKeys := false, apart := false, narrowed := true }
def FnExactTimeOrdersUptoSaid : Prop := fnExactTimeOrdersUptoRow.holds Try.pinned (OpenSpec.upto fnExactTimeOrdersSpec)

/-- 'laws.FnIsSame', WHERE WHAT IT READS IS OF BULK AT MOST 1048576: true; the input reads as it did. -/
def fnIsSameUptoRow : OpenClaim := { program := "ytkbclcgdkbhgdaa", sum := "fd020f6570421d269cdff26fd76d939af48aa1a210169c2ed601cd40af4d319d", func := "loop.example/transactionorders/laws.FnIsSame", spec := "fnIsSame", unfollowed := true, recurses := true, plainKeys := false, apart := false, narrowed := true }
def FnIsSameUptoSaid : Prop := fnIsSameUptoRow.holds Try.pinned (OpenSpec.upto fnIsSameSpec)

/-- 'laws.FnTimeOrders', WHERE WHAT IT READS IS OF BULK AT MOST 1048576: true; the input reads as it did. -/
def fnTimeOrdersUptoRow : OpenClaim := { program := "ytkbclcgdkbhgdaa", sum := "fd020f6570421d269cdff26fd76d939af48aa1a210169c2ed601cd40af4d319d", func := "loop.example/transactionorders/laws.FnTimeOrders", spec := "fnTimeOrders", unfollowed := true, recurses := true, plainKeys := false, apart := false, narrowed := true }
def FnTimeOrdersUptoSaid : Prop := fnTimeOrdersUptoRow.holds Try.pinned (OpenSpec.upto fnTimeOrdersSpec)

/-- 'laws.FnHasBlind', WHERE WHAT IT READS IS OF BULK AT MOST 1048576: true; the input reads as it did. -/
def fnHasBlindUptoRow : OpenClaim := { program := "ytkbclcgdkbhgdaa", sum := "fd020f6570421d269cdff26fd76d939af48aa1a210169c2ed601cd40af4d319d", func := "loop.example/transactionorders/laws.FnHasBlind", spec := "fnHasBlind", unfollowed := true, recurses := true, plainKeys := false, apart := false, narrowed := true }
def FnHasBlindUptoSaid : Prop := fnHasBlindUptoRow.holds Try.pinned (OpenSpec.upto fnHasBlindSpec)

/-- 'laws.FnIsViewSame', WHERE WHAT IT READS IS OF BULK AT MOST 1048576: true; the input reads as it did. -/
def fnIsViewSameUptoRow : OpenClaim := { program := "ytkbclcgdkbhgdaa", sum := "fd020f6570421d269cdff26fd76d939af48aa1a210169c2ed601cd40af4d319d", func := "loop.example/transactionorders/laws.FnIsViewSame", spec := "fnIsViewSame", unfollowed := true, recurses := true, plainKeys := false, apart := false, narrowed := true }
def FnIsViewSameUptoSaid : Prop := fnIsViewSameUptoRow.holds Try.pinned (OpenSpec.upto fnIsViewSameSpec)

/-- 'laws.FnExactViewOrders', WHERE WHAT IT READS IS OF BULK AT MOST 1048576: true; the input reads as it did. -/
def fnExactViewOrdersUptoRow : OpenClaim := { program := "ytkbclcgdkbhgdaa", sum := "fd020f6570421d269cdff26fd76d939af48aa1a210169c2ed601cd40af4d319d", func := "loop.example/transactionorders/laws.FnExactViewOrders", spec := "fnExactViewOrders", unfollowed := true, recurses := true, plainKeys := false, apart := false, narrowed := true }
def FnExactViewOrdersUptoSaid : Prop := fnExactViewOrdersUptoRow.holds Try.pinned (OpenSpec.upto fnExactViewOrdersSpec)

/-- 'laws.FnOrdersOf', WHERE WHAT IT READS IS OF BULK AT MOST 1048576: true; the input reads as it did. -/
def fnOrdersOfUptoRow : OpenClaim := { program := "ytkbclcgdkbhgdaa", sum := "fd020f6570421d269cdff26fd76d939af48aa1a210169c2ed601cd40af4d319d", func := "loop.example/transactionorders/laws.FnOrdersOf", spec := "fnOrdersOf", unfollowed := true, recurses := true, plainKeys := false, apart := false, narrowed := true }
def FnOrdersOfUptoSaid : Prop := fnOrdersOfUptoRow.holds Try.pinned (OpenSpec.upto fnOrdersOfSpec)

end Rows
end Go.Proofs.Ytkbclcgdkbhgdaa
