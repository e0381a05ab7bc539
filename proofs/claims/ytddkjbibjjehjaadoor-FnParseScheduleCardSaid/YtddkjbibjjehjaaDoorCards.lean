/-
  DERIVED. GIVEN WITH THE SEED: THE CARDS: each row of YtddkjbibjjehjaaDoorRows.lean that lists a variable, with what it lists TIED to the program's text (the seventh form; the later family's looks); each row that meets fmt, with fmt's text TOLD by the authors' own Lean function (tested against real Go, not proved from fmt's source: count such statements apart). THE CARD IS WHAT COUNTS. Prove the row's statement (the work); the ties are given (YtddkjbibjjehjaaDoorTie.lean); close each card by the builder's one call (the guide's Derived/Test/ToyasCard.lean, 'card_holds'). Laid BY PROGRAM, IN A SANDBOX (cutbox-door.mjs). By AI agents, Wed Nov 11 2026. No macro, syntax, notation, axiom, sorry.
-/
import Derived.Test.YtddkjbibjjehjaaDoorRows
import GoSem.ClaimSeven
namespace Go.Proofs.YtddkjbibjjehjaaDoor
namespace Rows

/-- THE TIED CARD OF 'laws.FnExactParseSchedule'. -/
def fnExactParseScheduleCard : Claim7 := { stood := { row := fnExactParseScheduleRow, standIns := [], harness := (true, "49a2f9b836dad61538524789aac40066506c71f2257416545cb256b2d5ad79b1"), looks := false }, kinds := [], alts := [], laidByText := true, laidKinds := [.data, .pinned], laidTests := true, laidLooks := .later }
def FnExactParseScheduleCardSaid : Prop := Claim7.holds Tryd.pinned (.plain (OpenSpec.ofChange fnExactParseScheduleSpec)) fnExactParseScheduleCard

/-- THE TIED CARD OF 'laws.FnScheduleText'. -/
def fnScheduleTextCard : Claim7 := { stood := { row := fnScheduleTextRow, standIns := [], harness := (true, "49a2f9b836dad61538524789aac40066506c71f2257416545cb256b2d5ad79b1"), looks := false }, kinds := [], alts := [], laidByText := true, laidKinds := [.data, .pinned], laidTests := true, laidLooks := .later }
def FnScheduleTextCardSaid : Prop := Claim7.holds Tryd.pinned (.plain (OpenSpec.ofChange fnScheduleTextSpec)) fnScheduleTextCard

/-- THE TIED CARD OF 'laws.FnParseSchedule'. -/
def fnParseScheduleCard : Claim7 := { stood := { row := fnParseScheduleRow, standIns := [], harness := (true, "49a2f9b836dad61538524789aac40066506c71f2257416545cb256b2d5ad79b1"), looks := false }, kinds := [], alts := [], laidByText := true, laidKinds := [.data, .pinned], laidTests := true, laidLooks := .later }
def FnParseScheduleCardSaid : Prop := Claim7.holds Tryd.pinned (.plain (OpenSpec.ofChange fnParseScheduleSpec)) fnParseScheduleCard

/-- THE SECOND FORM's CARD OF 'laws.FnExactParseSchedule'. -/
def fnExactParseScheduleUptoCard : Claim7 := { stood := { row := fnExactParseScheduleUptoRow, standIns := [], harness := (true, "49a2f9b836dad61538524789aac40066506c71f2257416545cb256b2d5ad79b1"), looks := false }, kinds := [], alts := [], laidByText := true, laidKinds := [.data, .pinned], laidTests := true, laidLooks := .later }
def FnExactParseScheduleUptoCardSaid : Prop := Claim7.holds Tryd.pinned (.plain (OpenSpec.upto fnExactParseScheduleSpec)) fnExactParseScheduleUptoCard

/-- THE SECOND FORM's CARD OF 'laws.FnScheduleText'. -/
def fnScheduleTextUptoCard : Claim7 := { stood := { row := fnScheduleTextUptoRow, standIns := [], harness := (true, "49a2f9b836dad61538524789aac40066506c71f2257416545cb256b2d5ad79b1"), looks := false }, kinds := [], alts := [], laidByText := true, laidKinds := [.data, .pinned], laidTests := true, laidLooks := .later }
def FnScheduleTextUptoCardSaid : Prop := Claim7.holds Tryd.pinned (.plain (OpenSpec.upto fnScheduleTextSpec)) fnScheduleTextUptoCard

/-- THE SECOND FORM's CARD OF 'laws.FnParseSchedule'. -/
def fnParseScheduleUptoCard : Claim7 := { stood := { row := fnParseScheduleUptoRow, standIns := [], harness := (true, "49a2f9b836dad61538524789aac40066506c71f2257416545cb256b2d5ad79b1"), looks := false }, kinds := [], alts := [], laidByText := true, laidKinds := [.data, .pinned], laidTests := true, laidLooks := .later }
def FnParseScheduleUptoCardSaid : Prop := Claim7.holds Tryd.pinned (.plain (OpenSpec.upto fnParseScheduleSpec)) fnParseScheduleUptoCard
end Rows
end Go.Proofs.YtddkjbibjjehjaaDoor
